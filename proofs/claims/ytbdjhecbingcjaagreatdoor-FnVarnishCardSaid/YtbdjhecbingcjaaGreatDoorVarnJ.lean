/- Lists of coats: both sides. Printed by a program of mine. -/
import Derived.Test.YtbdjhecbingcjaaGreatDoorRows
import Derived.Test.YtbdjhecbingcjaaGreatDoorVarnI
namespace Go.Proofs.YtbdjhecbingcjaaGreatDoor
set_option linter.unusedVariables false
set_option linter.unusedSimpArgs false
set_option linter.unusedSectionVars false
open Go.RowKit
set_option maxRecDepth 100000

theorem OkC.size {x : DCoat} (h : OkC x) : x.fId.size ≤ maxLen := by have := nl_name_size h.name; unfold maxLen; omega
theorem nameWV {B : Nat} {w0 w : World} (h : Below B w0 w) : ∃ W, W = w ∧ Below B w0 W := ⟨w, rfl, h⟩

set_option maxHeartbeats 4000000 in
theorem i_ValidCoats_yes (A : Option Addr) (n c : Nat) (l : List DCoat) (w : World) (hr : RdCoat w A n l) (hok : OkCs l) :
    Calls Tryz.prog 11 #[.slice A n c] w (RetB true w) := by
  have hn : n ≤ 4 := by rw [← hr.len]; exact hok.few
  have HO := Lib.hid hok; clear hok
  have Hl := Lib.hid hr.len
  go_enter Tryz.func11, Tryz.ntmps11
  go_wp2_with fail
  go_loopw [7] (fun i wr => ∃ k : Nat, k ≤ n ∧ i = .int .i64 k ∧ Below w.heap.size w wr) (fun i _ => n - (intOf i).toNat)
  case atStart => exact ⟨0, Nat.zero_le _, rfl, Below.refl _ _⟩
  case round =>
    obtain ⟨k, hk, rfl, hb⟩ := hrel
    by_cases hlt : k < n
    · obtain ⟨b, off, x, A', n', c', rfl, hx, hcs, hru⟩ := hr.get hlt
      have HOX := Lib.hid (HO.out.ok x (List.mem_of_getElem? hx))
      have m3 : n' ≤ maxLen := by rw [← hru.1, HOX.out.col.1]; decide
      have HV : Hid (∀ W, Below w.heap.size w W → Calls Tryz.prog 29 #[.agg #[.string x.fId, .int .i64 x.fDays, .int .i64 x.fCover, .slice A' n' c']] W (RetB true W)) := Lib.hid fun W h => HOX.out.yes ▸ i_validCoat x A' n' c' W HOX.out.size (hru.below h) m3
      have HX := Lib.hid hx
      have hcr := range_below (B := 0) hcs hb
      have hc0 := hcr 0 _ rfl
      have hc1 := hcr 1 _ rfl
      have hc2 := hcr 2 _ rfl
      have hc3 := hcr 3 _ rfl
      simp only [Nat.add_zero] at hc0 hc1 hc2 hc3
      have R := range_new wr #[.string x.fId, .int .i64 x.fDays, .int .i64 x.fCover, .slice A' n' c'] 36
      have ba : Below wr.heap.size wr (wr.alloc (.cells #[.string x.fId, .int .i64 x.fDays, .int .i64 x.fCover, .slice A' n' c'] 36)) := (Below.refl _ _).alloc (Nat.le_refl _) _
      obtain ⟨W0, hW0⟩ : ∃ W, wr.alloc (.cells #[.string x.fId, .int .i64 x.fDays, .int .i64 x.fCover, .slice A' n' c'] 36) = W := ⟨_, rfl⟩
      rw [hW0] at R ba
      have hb0 := hb.trans (ba.mono hb.size)
      have u0 := R 0 _ rfl
      have u1 := R 1 _ rfl
      have u2 := R 2 _ rfl
      have u3 := R 3 _ rfl
      simp only [Nat.zero_add] at u0 u1 u2 u3
      clear R hcs hx hcr hru
      obtain hk0 | ⟨j, hk0⟩ : k = 0 ∨ ∃ j, k = j + 1 := by cases k with
        | zero => exact .inl rfl
        | succ j => exact .inr ⟨j, rfl⟩
      · subst hk0
        rw [Nat.zero_mul, Nat.add_zero] at hc0 hc1 hc2 hc3
        go_wp2_with fail
        try rw [hW0]
        clear hW0 ba hc0 hc1 hc2 hc3
        let S : World → Prop := fun w' => w'.cell? ⟨wr.heap.size, 0, none⟩ = some (.string x.fId) ∧ w'.cell? ⟨wr.heap.size, 1, none⟩ = some (.int .i64 x.fDays) ∧ w'.cell? ⟨wr.heap.size, 2, none⟩ = some (.int .i64 x.fCover) ∧ w'.cell? ⟨wr.heap.size, 3, none⟩ = some (.slice A' n' c') ∧ Below w.heap.size w w'
        have hS : S (World.drew W0) := ⟨u0, u1, u2, u3, (hb0).drew⟩
        have hne : Nonempty (Wd S) := ⟨⟨_, hS⟩⟩
        have qc0 : ∀ t : Wd S, t.w.cell? ⟨wr.heap.size, 0, none⟩ = some (.string x.fId) := fun t => t.h.1
        have qc1 : ∀ t : Wd S, t.w.cell? ⟨wr.heap.size, 1, none⟩ = some (.int .i64 x.fDays) := fun t => t.h.2.1
        have qc2 : ∀ t : Wd S, t.w.cell? ⟨wr.heap.size, 2, none⟩ = some (.int .i64 x.fCover) := fun t => t.h.2.2.1
        have qc3 : ∀ t : Wd S, t.w.cell? ⟨wr.heap.size, 3, none⟩ = some (.slice A' n' c') := fun t => t.h.2.2.2.1
        have Q9 : Hid (∀ (t : Wd S) (w' : World), Below t.w.heap.size t.w w' → S w') := Lib.hid (fun t w' h => ⟨cell_later h t.h.1, cell_later h t.h.2.1, cell_later h t.h.2.2.1, cell_later h t.h.2.2.2.1, t.h.2.2.2.2.trans (h.mono t.h.2.2.2.2.size)⟩)
        have QE : Hid (∀ w', S w' → w'.cell? ⟨wr.heap.size, 0, none⟩ = some (.string x.fId) ∧ w'.cell? ⟨wr.heap.size, 1, none⟩ = some (.int .i64 x.fDays) ∧ w'.cell? ⟨wr.heap.size, 2, none⟩ = some (.int .i64 x.fCover) ∧ w'.cell? ⟨wr.heap.size, 3, none⟩ = some (.slice A' n' c') ∧ Below w.heap.size w w') := Lib.hid (fun w' h => h)
        refine wp_region_class S (by kernel_rfl) (by kernel_rfl) hS ?_
        clear_value S
        repeat (go_big_quiet_step ((first | (go_at_call 29; exact class_call _ (HV.out _ (QE.out _ (Wd.h _)).2.2.2.2) (fun e w' h => ⟨h.1, Q9.out _ _ h.2⟩)))))
        refine wpQuiet_nil ?_
        rintro _ ⟨⟨w1, hw1⟩, rfl⟩
        have hE := QE.out _ hw1
        have hb2 := hE.2.2.2.2
        clear hE
        try dsimp only
        clear hw1 hS hne Q9 QE qc0 qc1 qc2 qc3
        go_wp2
        first | (refine ⟨⟨1, by omega, by go_num, hb2⟩, ?_⟩; (simp [intOf]; omega)) | (go_roundw; (case rel => first | exact ⟨1, by omega, by go_num, hb2⟩ | ((try refine ⟨trivial, ?_⟩); (repeat apply Exists.intro); exact ⟨⟨1, by omega, by go_num, hb2⟩, rfl⟩)); (case measure => (simp [intOf]; omega)))
      · subst hk0
        obtain ⟨p, hp⟩ : ∃ p, l[j]? = some p := ⟨_, List.getElem?_eq_getElem (by have := Hl.out; omega)⟩
        obtain ⟨b', off', p', _, _, _, hA', hp', hcp, _⟩ := hr.get (k := j) (by omega)
        cases hA'
        rw [hp] at hp'
        cases hp'
        have hp0 := range_below (B := 0) hcp hb0 0 _ rfl
        simp only [Nat.add_zero] at hp0
        have hasc := HO.out.asc j p x hp HX.out
        clear hp hcp
        go_wp2_with fail
        try rw [hW0]
        clear hW0 ba hc0 hc1 hc2 hc3
        let S : World → Prop := fun w' => w'.cell? ⟨wr.heap.size, 0, none⟩ = some (.string x.fId) ∧ w'.cell? ⟨wr.heap.size, 1, none⟩ = some (.int .i64 x.fDays) ∧ w'.cell? ⟨wr.heap.size, 2, none⟩ = some (.int .i64 x.fCover) ∧ w'.cell? ⟨wr.heap.size, 3, none⟩ = some (.slice A' n' c') ∧ w'.cell? ⟨b, off + j * 4, none⟩ = some (.string p.fId) ∧ Below w.heap.size w w'
        have hS : S (World.drew W0) := ⟨u0, u1, u2, u3, hp0, (hb0).drew⟩
        have hne : Nonempty (Wd S) := ⟨⟨_, hS⟩⟩
        have qc0 : ∀ t : Wd S, t.w.cell? ⟨wr.heap.size, 0, none⟩ = some (.string x.fId) := fun t => t.h.1
        have qc1 : ∀ t : Wd S, t.w.cell? ⟨wr.heap.size, 1, none⟩ = some (.int .i64 x.fDays) := fun t => t.h.2.1
        have qc2 : ∀ t : Wd S, t.w.cell? ⟨wr.heap.size, 2, none⟩ = some (.int .i64 x.fCover) := fun t => t.h.2.2.1
        have qc3 : ∀ t : Wd S, t.w.cell? ⟨wr.heap.size, 3, none⟩ = some (.slice A' n' c') := fun t => t.h.2.2.2.1
        have qc4 : ∀ t : Wd S, t.w.cell? ⟨b, off + j * 4, none⟩ = some (.string p.fId) := fun t => t.h.2.2.2.2.1
        have Q9 : Hid (∀ (t : Wd S) (w' : World), Below t.w.heap.size t.w w' → S w') := Lib.hid (fun t w' h => ⟨cell_later h t.h.1, cell_later h t.h.2.1, cell_later h t.h.2.2.1, cell_later h t.h.2.2.2.1, cell_later h t.h.2.2.2.2.1, t.h.2.2.2.2.2.trans (h.mono t.h.2.2.2.2.2.size)⟩)
        have QE : Hid (∀ w', S w' → w'.cell? ⟨wr.heap.size, 0, none⟩ = some (.string x.fId) ∧ w'.cell? ⟨wr.heap.size, 1, none⟩ = some (.int .i64 x.fDays) ∧ w'.cell? ⟨wr.heap.size, 2, none⟩ = some (.int .i64 x.fCover) ∧ w'.cell? ⟨wr.heap.size, 3, none⟩ = some (.slice A' n' c') ∧ w'.cell? ⟨b, off + j * 4, none⟩ = some (.string p.fId) ∧ Below w.heap.size w w') := Lib.hid (fun w' h => h)
        refine wp_region_class S (by kernel_rfl) (by kernel_rfl) hS ?_
        clear_value S
        repeat (go_big_quiet_step ((first | (go_at_call 29; exact class_call _ (HV.out _ (QE.out _ (Wd.h _)).2.2.2.2.2) (fun e w' h => ⟨h.1, Q9.out _ _ h.2⟩)))))
        refine wpQuiet_nil ?_
        rintro _ ⟨⟨w1, hw1⟩, rfl⟩
        have hE := QE.out _ hw1
        have hb2 := hE.2.2.2.2.2
        clear hE
        try dsimp only
        clear hw1 hS hne Q9 QE qc0 qc1 qc2 qc3 qc4
        go_wp2
        first | (refine ⟨⟨j + 2, by omega, by go_num, hb2⟩, ?_⟩; (simp [intOf]; omega)) | (go_roundw; (case rel => first | exact ⟨j + 2, by omega, by go_num, hb2⟩ | ((try refine ⟨trivial, ?_⟩); (repeat apply Exists.intro); exact ⟨⟨j + 2, by omega, by go_num, hb2⟩, rfl⟩)); (case measure => (simp [intOf]; omega)))
    · have hd : decide ((n : Int) ≤ 10) = true := decide_eq_true (by omega)
      go_wp2_with fail
      refine (i_few _ _ _ (by omega) (by omega)).mono ?_
      rintro e w' ⟨rfl, rfl⟩
      rw [hd]
      go_wp2
      go_ret
      exact ⟨rfl, hb⟩
set_option maxHeartbeats 4000000 in
theorem s_l13Ok_yes (A : Option Addr) (n c : Nat) (l : List DCoat) (w : World) (hr : RdCoat w A n l) (hok : OkCs l) :
    Calls Tryz.prog 39 #[.slice A n c] w (RetB true w) := by
  have hn : n ≤ 4 := by rw [← hr.len]; exact hok.few
  have HO := Lib.hid hok; clear hok
  have Hl := Lib.hid hr.len
  go_enter Tryz.func39, Tryz.ntmps39
  go_wp2_with fail
  go_loopw [3] (fun i wr => ∃ k : Nat, k ≤ n ∧ i = .int .i64 k ∧ Below w.heap.size w wr) (fun i _ => n - (intOf i).toNat)
  case atStart => exact ⟨0, Nat.zero_le _, rfl, Below.refl _ _⟩
  case round =>
    obtain ⟨k, hk, rfl, hb⟩ := hrel
    by_cases hlt : k < n
    · obtain ⟨b, off, x, A', n', c', rfl, hx, hcs, hru⟩ := hr.get hlt
      have HOX := Lib.hid (HO.out.ok x (List.mem_of_getElem? hx))
      have m3 : n' ≤ maxLen := by rw [← hru.1, HOX.out.col.1]; decide
      have HV : Hid (∀ W, Below w.heap.size w W → Calls Tryz.prog 54 #[.pointer (some ⟨b, off + k * 4, none⟩)] W (RetB true W)) := Lib.hid fun W h => HOX.out.yes ▸ s_l13One b (off + k * 4) x A' n' c' W HOX.out.size (range_below (B := 0) hcs h) (hru.below h) m3
      have HX := Lib.hid hx
      have hc0 := range_below (B := 0) hcs hb 0 _ rfl
      simp only [Nat.add_zero] at hc0
      clear hcs hx hru
      obtain hk0 | ⟨j, hk0⟩ : k = 0 ∨ ∃ j, k = j + 1 := by cases k with
        | zero => exact .inl rfl
        | succ j => exact .inr ⟨j, rfl⟩
      · subst hk0
        simp only [Nat.zero_mul, Nat.add_zero] at hc0 HV
        go_wp2_with fail
        let S : World → Prop := fun w' => w'.cell? ⟨b, off, none⟩ = some (.string x.fId) ∧ Below w.heap.size w w'
        have hS : S (World.drew wr) := ⟨hc0, (hb).drew⟩
        have hne : Nonempty (Wd S) := ⟨⟨_, hS⟩⟩
        have qc0 : ∀ t : Wd S, t.w.cell? ⟨b, off, none⟩ = some (.string x.fId) := fun t => t.h.1
        have Q9 : Hid (∀ (t : Wd S) (w' : World), Below t.w.heap.size t.w w' → S w') := Lib.hid (fun t w' h => ⟨cell_later h t.h.1, t.h.2.trans (h.mono t.h.2.size)⟩)
        have QE : Hid (∀ w', S w' → w'.cell? ⟨b, off, none⟩ = some (.string x.fId) ∧ Below w.heap.size w w') := Lib.hid (fun w' h => h)
        refine wp_region_class S (by kernel_rfl) (by kernel_rfl) hS ?_
        clear_value S
        repeat (go_big_quiet_step ((first | (go_at_call 54; exact class_call _ (HV.out _ (QE.out _ (Wd.h _)).2) (fun e w' h => ⟨h.1, Q9.out _ _ h.2⟩)))))
        refine wpQuiet_nil ?_
        rintro _ ⟨⟨w1, hw1⟩, rfl⟩
        have hE := QE.out _ hw1
        have hb2 := hE.2
        clear hE
        try dsimp only
        clear hw1 hS hne Q9 QE qc0
        go_wp2
        first | (refine ⟨⟨1, by omega, by go_num, hb2⟩, ?_⟩; (simp [intOf]; omega)) | (go_roundw; (case rel => first | exact ⟨1, by omega, by go_num, hb2⟩ | ((try refine ⟨trivial, ?_⟩); (repeat apply Exists.intro); exact ⟨⟨1, by omega, by go_num, hb2⟩, rfl⟩)); (case measure => (simp [intOf]; omega)))
      · subst hk0
        obtain ⟨p, hp⟩ : ∃ p, l[j]? = some p := ⟨_, List.getElem?_eq_getElem (by have := Hl.out; omega)⟩
        obtain ⟨b', off', p', _, _, _, hA', hp', hcp, _⟩ := hr.get (k := j) (by omega)
        cases hA'
        rw [hp] at hp'
        cases hp'
        have hp0 := range_below (B := 0) hcp hb 0 _ rfl
        simp only [Nat.add_zero] at hp0
        have hasc := HO.out.asc j p x hp HX.out
        clear hp hcp
        go_wp2_with fail
        let S : World → Prop := fun w' => w'.cell? ⟨b, off + (j + 1) * 4, none⟩ = some (.string x.fId) ∧ w'.cell? ⟨b, off + j * 4, none⟩ = some (.string p.fId) ∧ Below w.heap.size w w'
        have hS : S (World.drew wr) := ⟨hc0, hp0, (hb).drew⟩
        have hne : Nonempty (Wd S) := ⟨⟨_, hS⟩⟩
        have qc0 : ∀ t : Wd S, t.w.cell? ⟨b, off + (j + 1) * 4, none⟩ = some (.string x.fId) := fun t => t.h.1
        have qc1 : ∀ t : Wd S, t.w.cell? ⟨b, off + j * 4, none⟩ = some (.string p.fId) := fun t => t.h.2.1
        have Q9 : Hid (∀ (t : Wd S) (w' : World), Below t.w.heap.size t.w w' → S w') := Lib.hid (fun t w' h => ⟨cell_later h t.h.1, cell_later h t.h.2.1, t.h.2.2.trans (h.mono t.h.2.2.size)⟩)
        have QE : Hid (∀ w', S w' → w'.cell? ⟨b, off + (j + 1) * 4, none⟩ = some (.string x.fId) ∧ w'.cell? ⟨b, off + j * 4, none⟩ = some (.string p.fId) ∧ Below w.heap.size w w') := Lib.hid (fun w' h => h)
        refine wp_region_class S (by kernel_rfl) (by kernel_rfl) hS ?_
        clear_value S
        repeat (go_big_quiet_step ((first | (go_at_call 54; exact class_call _ (HV.out _ (QE.out _ (Wd.h _)).2.2) (fun e w' h => ⟨h.1, Q9.out _ _ h.2⟩)))))
        refine wpQuiet_nil ?_
        rintro _ ⟨⟨w1, hw1⟩, rfl⟩
        have hE := QE.out _ hw1
        have hb2 := hE.2.2
        clear hE
        try dsimp only
        clear hw1 hS hne Q9 QE qc0 qc1
        go_wp2
        first | (refine ⟨⟨j + 2, by omega, by go_num, hb2⟩, ?_⟩; (simp [intOf]; omega)) | (go_roundw; (case rel => first | exact ⟨j + 2, by omega, by go_num, hb2⟩ | ((try refine ⟨trivial, ?_⟩); (repeat apply Exists.intro); exact ⟨⟨j + 2, by omega, by go_num, hb2⟩, rfl⟩)); (case measure => (simp [intOf]; omega)))
    · have hd : decide ((n : Int) ≤ 10) = true := decide_eq_true (by omega)
      go_wp2
      go_ret
      exact ⟨rfl, hb⟩

set_option maxHeartbeats 4000000 in
theorem i_ColourAfter_yes (A : Option Addr) (n c : Nat) (l : List DCoat) (A1 : Option Addr) (n1 c1 : Nat) (ord : List Int) (A2 : Option Addr) (n2 c2 : Nat) (g : List Int) (w : World) (hr : RdCoat w A n l) (hr1 : Rd intE w A1 n1 ord) (hr2 : Rd intE w A2 n2 g) (hok : OkCs l) (ho : Ord5 l ord) (hg : Col g) :
    Calls Tryz.prog 8 #[.slice A n c, .slice A1 n1 c1, .slice A2 n2 c2] w (RetColC (afterL l ord g) w) := by
  have hn : n ≤ 4 := by rw [← hr.len]; exact hok.few
  have h10 : n1 ≤ 10 := by rw [← hr1.1]; exact ho.1
  have m2 : n2 ≤ maxLen := by rw [← hr2.1, hg.1]; decide
  have e2 := col_yes hg
  have HO := Lib.hid hok; have HR := Lib.hid ho; have HG := Lib.hid hg
  have Hl1 := Lib.hid hr1.1
  clear hok ho hg
  go_enter Tryz.func8, Tryz.ntmps8
  go_wp2_with fail
  refine (i_ValidCoats_yes A n c l w hr HO.out).mono ?_
  rintro e w1 ⟨rfl, b1⟩
  go_wp2_with fail
  refine (i_isColour A2 n2 c2 g w1 (hr2.below b1) m2).mono ?_
  rw [e2]
  rintro e w2 ⟨rfl, b2⟩
  have b12 := b1.trans (b2.mono b1.size)
  clear b1 b2 e2
  go_wp2_with fail
  refine (i_isOrder_yes A n c l A1 n1 c1 ord w2 hr.len hn (hr1.below b12) HR.out).mono ?_
  rintro e w3 ⟨rfl, rfl⟩
  go_wp2_with fail
  refine (i_clone64 A2 n2 c2 g w2 (hr2.below b12) HG.out).mono ?_
  rintro e w4 ⟨B0, q0, rfl, h0, b4⟩
  have b14 := b12.trans (b4.mono b12.size)
  have H0 : Hid (Rd intE w4 B0 3 (afterL l (ord.take 0) g)) := Lib.hid h0
  clear b12 b4 h0
  go_wp2_with fail
  go_loopw [8, 27] (fun t i wr => ∃ (k : Nat) (B : Option Addr) (q : Nat), k ≤ n1 ∧ i = .int .i64 k ∧ t = .slice B 3 q ∧ Hid (Rd intE wr B 3 (afterL l (ord.take k) g)) ∧ Below w.heap.size w wr) (fun _ i _ => n1 - (intOf i).toNat)
  case atStart => exact ⟨0, B0, q0, Nat.zero_le _, rfl, rfl, H0, b14⟩
  case round =>
    clear H0 b14
    obtain ⟨k, B, q, hk, rfl, rfl, HD, hb⟩ := hrel
    by_cases hlt : k < n1
    · obtain ⟨b, off, v, rfl, hv, hcs⟩ := (hr1.below hb).get hlt
      have h0 := hcs 0 _ rfl
      simp only [intE, Nat.mul_one, Nat.add_zero] at h0
      obtain ⟨p, x, rfl, hx⟩ := HR.out.2 v (List.mem_of_getElem? hv)
      have hp : p < n := by rw [← hr.len]; exact (List.getElem?_eq_some_iff.1 hx).1
      obtain ⟨bl, ol, x', A', n', c', rfl, hx', hcx, hru⟩ := (hr.below hb).get hp
      rw [hx] at hx'
      cases hx'
      have hx0 := hcx 0 _ rfl
      have hx1 := hcx 1 _ rfl
      have hx2 := hcx 2 _ rfl
      have hx3 := hcx 3 _ rfl
      simp only [Nat.add_zero] at hx0 hx1 hx2 hx3
      have HOX := Lib.hid (HO.out.ok x (List.mem_of_getElem? hx))
      have HN : Hid (afterL l (ord.take (k + 1)) g = overL x (afterL l (ord.take k) g)) := Lib.hid (by rw [afterL_take hv, coatAt_get hx])
      have HC := Lib.hid (afterL_col HO.out HG.out (HR.out.take k))
      clear hcs hv hx
      go_wp2_with fail
      refine (i_over x A' n' c' B 3 q _ wr HOX.out hru HD.out HC.out).mono ?_
      rintro e w5 ⟨B5, q5, rfl, h5, b5⟩
      have hbN := hb.trans (b5.mono hb.size)
      have H5 : Hid (Rd intE w5 B5 3 (afterL l (ord.take (k + 1)) g)) := Lib.hid (by rw [HN.out]; exact h5)
      clear h5 b5 h0 hx0 hx1 hx2 hx3
      go_wp2
      first | (refine ⟨⟨k + 1, B5, q5, by omega, by go_num, rfl, H5, hbN⟩, ?_⟩; (simp [intOf]; omega)) | (go_roundw; (case rel => first | exact ⟨k + 1, B5, q5, by omega, by go_num, rfl, H5, hbN⟩ | ((try refine ⟨trivial, ?_⟩); (repeat apply Exists.intro); exact ⟨⟨k + 1, B5, q5, by omega, by go_num, rfl, H5, hbN⟩, rfl⟩)); (case measure => (simp [intOf]; omega)))
    · obtain rfl : k = n1 := by omega
      have H5 : Hid (Rd intE wr B 3 (afterL l ord g)) := Lib.hid (by have h := HD.out; rw [List.take_of_length_le (Nat.le_of_eq Hl1.out)] at h; exact h)
      clear HD
      go_wp2
      go_ret2
      exact ⟨B, q, rfl, H5.out, hb⟩

set_option maxHeartbeats 4000000 in
theorem s_ColourAfter_yes (A : Option Addr) (n c : Nat) (l : List DCoat) (A1 : Option Addr) (n1 c1 : Nat) (ord : List Int) (A2 : Option Addr) (n2 c2 : Nat) (g : List Int) (w : World) (hr : RdCoat w A n l) (hr1 : Rd intE w A1 n1 ord) (hr2 : Rd intE w A2 n2 g) (hok : OkCs l) (ho : Ord5 l ord) (hg : Col g) :
    Calls Tryz.prog 20 #[.slice A n c, .slice A1 n1 c1, .slice A2 n2 c2] w (RetColC (afterL l ord g) w) := by
  have hn : n ≤ 4 := by rw [← hr.len]; exact hok.few
  have h10 : n1 ≤ 10 := by rw [← hr1.1]; exact ho.1
  have m2 : n2 ≤ maxLen := by rw [← hr2.1, hg.1]; decide
  have e2 := col_yes hg
  have HO := Lib.hid hok; have HR := Lib.hid ho; have HG := Lib.hid hg
  have Hl1 := Lib.hid hr1.1
  clear hok ho hg
  go_enter Tryz.func20, Tryz.ntmps20
  go_wp2_with fail
  refine (s_l13Ok_yes A n c l w hr HO.out).mono ?_
  rintro e w1 ⟨rfl, b1⟩
  go_wp2_with fail
  refine (s_l13Colour A2 n2 c2 g w1 (hr2.below b1) m2).mono ?_
  rw [e2]
  rintro e w2 ⟨rfl, b2⟩
  have b12 := b1.trans (b2.mono b1.size)
  clear b1 b2 e2
  go_wp2_with fail
  refine (s_l13Order_yes A n c l A1 n1 c1 ord w2 hr.len hn (hr1.below b12) HR.out).mono ?_
  rintro e w3 ⟨rfl, rfl⟩
  go_wp2_with fail
  refine (s_l00Own A2 n2 c2 g w2 (hr2.below b12) HG.out).mono ?_
  rintro e w4 ⟨B0, q0, rfl, h0, b4⟩
  have b14 := b12.trans (b4.mono b12.size)
  have H0 : Hid (Rd intE w4 B0 3 (afterL l (ord.take 0) g)) := Lib.hid h0
  clear b12 b4 h0
  go_wp2_with fail
  go_loopw [8, 9] (fun t i wr => ∃ (k : Nat) (B : Option Addr) (q : Nat), k ≤ n1 ∧ i = .int .i64 k ∧ t = .slice B 3 q ∧ Hid (Rd intE wr B 3 (afterL l (ord.take k) g)) ∧ Below w.heap.size w wr) (fun _ i _ => n1 - (intOf i).toNat)
  case atStart => exact ⟨0, B0, q0, Nat.zero_le _, rfl, rfl, H0, b14⟩
  case round =>
    clear H0 b14
    obtain ⟨k, B, q, hk, rfl, rfl, HD, hb⟩ := hrel
    by_cases hlt : k < n1
    · obtain ⟨b, off, v, rfl, hv, hcs⟩ := (hr1.below hb).get hlt
      have h0 := hcs 0 _ rfl
      simp only [intE, Nat.mul_one, Nat.add_zero] at h0
      obtain ⟨p, x, rfl, hx⟩ := HR.out.2 v (List.mem_of_getElem? hv)
      have hp : p < n := by rw [← hr.len]; exact (List.getElem?_eq_some_iff.1 hx).1
      obtain ⟨bl, ol, x', A', n', c', rfl, hx', hcx, hru⟩ := (hr.below hb).get hp
      rw [hx] at hx'
      cases hx'
      have hx0 := hcx 0 _ rfl
      have hx1 := hcx 1 _ rfl
      have hx2 := hcx 2 _ rfl
      have hx3 := hcx 3 _ rfl
      simp only [Nat.add_zero] at hx0 hx1 hx2 hx3
      have HOX := Lib.hid (HO.out.ok x (List.mem_of_getElem? hx))
      have HN : Hid (afterL l (ord.take (k + 1)) g = overL x (afterL l (ord.take k) g)) := Lib.hid (by rw [afterL_take hv, coatAt_get hx])
      have HC := Lib.hid (afterL_col HO.out HG.out (HR.out.take k))
      clear hcs hv hx
      go_wp2_with fail
      refine (s_l13Over bl (ol + p * 4) x A' n' c' B 3 q _ wr hcx HOX.out hru HD.out HC.out).mono ?_
      rintro e w5 ⟨B5, q5, rfl, h5, b5⟩
      have hbN := hb.trans (b5.mono hb.size)
      have H5 : Hid (Rd intE w5 B5 3 (afterL l (ord.take (k + 1)) g)) := Lib.hid (by rw [HN.out]; exact h5)
      clear h5 b5 h0 hx0 hx1 hx2 hx3
      go_wp2
      first | (refine ⟨⟨k + 1, B5, q5, by omega, by go_num, rfl, H5, hbN⟩, ?_⟩; (simp [intOf]; omega)) | (go_roundw; (case rel => first | exact ⟨k + 1, B5, q5, by omega, by go_num, rfl, H5, hbN⟩ | ((try refine ⟨trivial, ?_⟩); (repeat apply Exists.intro); exact ⟨⟨k + 1, B5, q5, by omega, by go_num, rfl, H5, hbN⟩, rfl⟩)); (case measure => (simp [intOf]; omega)))
    · obtain rfl : k = n1 := by omega
      have H5 : Hid (Rd intE wr B 3 (afterL l ord g)) := Lib.hid (by have h := HD.out; rw [List.take_of_length_le (Nat.le_of_eq Hl1.out)] at h; exact h)
      clear HD
      go_wp2
      go_ret2
      exact ⟨B, q, rfl, H5.out, hb⟩

set_option maxHeartbeats 4000000 in
theorem i_DryingDays_yes (A : Option Addr) (n c : Nat) (l : List DCoat) (A1 : Option Addr) (n1 c1 : Nat) (ord : List Int) (w : World) (hr : RdCoat w A n l) (hr1 : Rd intE w A1 n1 ord) (hok : OkCs l) (ho : Ord5 l ord) :
    Calls Tryz.prog 9 #[.slice A n c, .slice A1 n1 c1] w fun e w' => e = .returned (.tuple #[.int .i64 (daysL l ord), .int .i64 0]) ∧ Below w.heap.size w w' := by
  have hn : n ≤ 4 := by rw [← hr.len]; exact hok.few
  have h10 : n1 ≤ 10 := by rw [← hr1.1]; exact ho.1
  have HO := Lib.hid hok; have HR := Lib.hid ho
  have Hl1 := Lib.hid hr1.1
  clear hok ho
  go_enter Tryz.func9, Tryz.ntmps9
  go_wp2_with fail
  refine (i_ValidCoats_yes A n c l w hr HO.out).mono ?_
  rintro e w1 ⟨rfl, b1⟩
  have HB1 := Lib.hid b1
  go_wp2_with fail
  refine (i_isOrder_yes A n c l A1 n1 c1 ord w1 hr.len hn (hr1.below b1) HR.out).mono ?_
  rintro e w3 ⟨rfl, rfl⟩
  have hrB := hr.below b1
  have hr1B := hr1.below b1
  clear b1
  go_wp2_with fail
  go_loop [6, 18] (fun s i => ∃ k : Nat, k ≤ n1 ∧ i = .int .i64 k ∧ s = .int .i64 (daysL l (ord.take k))) (fun _ i => n1 - (intOf i).toNat)
  case atStart => exact ⟨0, Nat.zero_le _, rfl, rfl⟩
  case round =>
    obtain ⟨k, hk, rfl, rfl⟩ := hrel
    have hD := daysL_range HO.out (HR.out.take k)
    rw [List.length_take] at hD
    by_cases hlt : k < n1
    · obtain ⟨b, off, v, rfl, hv, hcs⟩ := hr1B.get hlt
      have h0 := hcs 0 _ rfl
      simp only [intE, Nat.mul_one, Nat.add_zero] at h0
      obtain ⟨p, x, rfl, hx⟩ := HR.out.2 v (List.mem_of_getElem? hv)
      have hp : p < n := by rw [← hr.len]; exact (List.getElem?_eq_some_iff.1 hx).1
      obtain ⟨bl, ol, x', A', n', c', rfl, hx', hcx, hru⟩ := hrB.get hp
      rw [hx] at hx'
      cases hx'
      have hx1 := hcx 1 _ rfl
      have hdx := (HO.out.ok x (List.mem_of_getElem? hx)).days
      have HN : Hid (daysL l (ord.take (k + 1)) = daysL l (ord.take k) + x.fDays) := Lib.hid (by rw [daysL_take hv, coatAt_get hx])
      obtain ⟨S, hS⟩ : ∃ S, daysL l (ord.take k) = S := ⟨_, rfl⟩
      rw [hS] at HN hD ⊢
      clear hcs hv hx hcx hru hS
      go_wp2
      first | (refine ⟨⟨k + 1, by omega, by go_num, by rw [HN.out]⟩, ?_⟩; (simp [intOf]; omega)) | (go_round; (case rel => first | exact ⟨k + 1, by omega, by go_num, by rw [HN.out]⟩ | ((try refine ⟨trivial, ?_⟩); (repeat apply Exists.intro); exact ⟨⟨k + 1, by omega, by go_num, by rw [HN.out]⟩, rfl⟩)); (case measure => (simp [intOf]; omega)))
    · obtain rfl : k = n1 := by omega
      have E1 : Hid (daysL l (ord.take k) = daysL l ord) := Lib.hid (by rw [List.take_of_length_le (Nat.le_of_eq Hl1.out)])
      rw [E1.out]
      go_wp2
      go_ret2
      exact ⟨rfl, HB1.out⟩

def StrongR (l : List DCoat) (w : World) (e : Ending) (w' : World) : Prop :=
  ((l = [] ∧ e = .returned (.tuple #[.int .i64 0, .int .i64 3])) ∨ ∃ (b : Nat) (x : DCoat), l[b]? = some x ∧ (∀ y ∈ l, y.fCover ≤ x.fCover) ∧ e = .returned (.tuple #[.int .i64 b, .int .i64 0])) ∧ Below w.heap.size w w'
def MostTo (l : List DCoat) (x : DCoat) (k : Nat) : Prop := ∀ (j : Nat) (y : DCoat), j < k → l[j]? = some y → y.fCover ≤ x.fCover
theorem most_zero (l : List DCoat) (x : DCoat) : MostTo l x 0 := fun j y h => absurd h (Nat.not_lt_zero _)
theorem most_keep {l : List DCoat} {x y : DCoat} {k : Nat} (h : MostTo l x k) (hy : l[k]? = some y) (hc : y.fCover ≤ x.fCover) : MostTo l x (k + 1) := fun j z hj hz => by
  rcases Nat.lt_or_ge j k with h1 | h1
  · exact h j z h1 hz
  · obtain rfl : j = k := by omega
    rw [hy] at hz
    cases hz
    exact hc
theorem most_turn {l : List DCoat} {x y : DCoat} {k : Nat} (h : MostTo l x k) (hy : l[k]? = some y) (hc : x.fCover < y.fCover) : MostTo l y (k + 1) := fun j z hj hz => by
  rcases Nat.lt_or_ge j k with h1 | h1
  · have := h j z h1 hz; omega
  · obtain rfl : j = k := by omega
    rw [hy] at hz
    cases hz
    exact Int.le_refl _
set_option maxHeartbeats 4000000 in
theorem i_StrongestCoat (A : Option Addr) (n c : Nat) (l : List DCoat) (w : World) (hr : RdCoat w A n l) (hok : OkCs l) :
    Calls Tryz.prog 15 #[.slice A n c] w (StrongR l w) := by
  have hn : n ≤ 4 := by rw [← hr.len]; exact hok.few
  have HO := Lib.hid hok; clear hok
  have Hl := Lib.hid hr.len
  go_enter Tryz.func15, Tryz.ntmps15
  go_wp2_with fail
  refine (i_ValidCoats_yes A n c l w hr HO.out).mono ?_
  rintro e w1 ⟨rfl, b1⟩
  rcases n with _ | m
  · have E1 := Lib.hid (List.eq_nil_of_length_eq_zero Hl.out)
    go_wp2
    go_ret2
    exact ⟨.inl ⟨E1.out, rfl⟩, b1⟩
  have hne : (((m + 1 : Nat) : Int) == 0) = false := by rw [beq_eq_false_iff_ne]; omega
  obtain ⟨x0, hx0⟩ : ∃ x, l[0]? = some x := ⟨_, List.getElem?_eq_getElem (by have := Hl.out; omega)⟩
  have HX0 := Lib.hid hx0
  clear hx0
  go_wp2_with fail
  go_loopw [4, 15] (fun t i wr => ∃ (k bq : Nat) (y : DCoat), k ≤ m + 1 ∧ i = .int .i64 k ∧ t = .int .i64 bq ∧ Hid (l[bq]? = some y) ∧ Hid (MostTo l y k) ∧ Below w.heap.size w wr) (fun _ i _ => m + 1 - (intOf i).toNat)
  case atStart => exact ⟨0, 0, x0, Nat.zero_le _, rfl, rfl, HX0, Lib.hid (most_zero l x0), b1⟩
  case round =>
    clear hne HX0 b1
    obtain ⟨k, bq, y, hk, rfl, rfl, HY, HM, hb⟩ := hrel
    by_cases hlt : k < m + 1
    · obtain ⟨b, off, x, A', n', c', rfl, hx, hcs, hru⟩ := hr.get hlt
      have hbq : bq < m + 1 := by rw [← Hl.out]; exact (List.getElem?_eq_some_iff.1 HY.out).1
      obtain ⟨b', off', y', _, _, _, hA', hy', hcy, _⟩ := hr.get hbq
      cases hA'
      rw [HY.out] at hy'
      cases hy'
      have HX := Lib.hid hx
      have hcr := range_below (B := 0) hcs hb
      have hc0 := hcr 0 _ rfl
      have hc1 := hcr 1 _ rfl
      have hc2 := hcr 2 _ rfl
      have hc3 := hcr 3 _ rfl
      simp only [Nat.add_zero] at hc0 hc1 hc2 hc3
      have R := range_new wr #[.string x.fId, .int .i64 x.fDays, .int .i64 x.fCover, .slice A' n' c'] 36
      have ba : Below wr.heap.size wr (wr.alloc (.cells #[.string x.fId, .int .i64 x.fDays, .int .i64 x.fCover, .slice A' n' c'] 36)) := (Below.refl _ _).alloc (Nat.le_refl _) _
      obtain ⟨W0, hW0⟩ : ∃ W, wr.alloc (.cells #[.string x.fId, .int .i64 x.fDays, .int .i64 x.fCover, .slice A' n' c'] 36) = W := ⟨_, rfl⟩
      rw [hW0] at R ba
      have hb0 := hb.trans (ba.mono hb.size)
      have u2 := R 2 _ rfl
      simp only [Nat.zero_add] at u2
      have y2 := range_below (B := 0) hcy hb0 2 _ rfl
      clear R hcs hx hcr hru hcy
      by_cases hgt : y.fCover < x.fCover
      · have HN := Lib.hid (most_turn HM.out HX.out hgt)
        go_wp2_with fail
        try rw [hW0]
        clear hW0 ba hc0 hc1 hc2 hc3
        go_quiet (fail)
        go_wp2
        first | (refine ⟨⟨k + 1, k, x, by omega, by go_num, rfl, HX, HN, below_drewN hb0 _⟩, ?_⟩; (simp [intOf]; omega)) | (go_roundw; (case rel => first | exact ⟨k + 1, k, x, by omega, by go_num, rfl, HX, HN, below_drewN hb0 _⟩ | ((try refine ⟨trivial, ?_⟩); (repeat apply Exists.intro); exact ⟨⟨k + 1, k, x, by omega, by go_num, rfl, HX, HN, below_drewN hb0 _⟩, rfl⟩)); (case measure => (simp [intOf]; omega)))
      · have HN := Lib.hid (most_keep HM.out HX.out (by omega))
        go_wp2_with fail
        try rw [hW0]
        clear hW0 ba hc0 hc1 hc2 hc3
        go_quiet (fail)
        go_wp2
        first | (refine ⟨⟨k + 1, bq, y, by omega, by go_num, rfl, HY, HN, below_drewN hb0 _⟩, ?_⟩; (simp [intOf]; omega)) | (go_roundw; (case rel => first | exact ⟨k + 1, bq, y, by omega, by go_num, rfl, HY, HN, below_drewN hb0 _⟩ | ((try refine ⟨trivial, ?_⟩); (repeat apply Exists.intro); exact ⟨⟨k + 1, bq, y, by omega, by go_num, rfl, HY, HN, below_drewN hb0 _⟩, rfl⟩)); (case measure => (simp [intOf]; omega)))
    · have HF : Hid (∀ z ∈ l, z.fCover ≤ y.fCover) := Lib.hid fun z hz => by
        obtain ⟨j, hj⟩ := List.mem_iff_getElem?.1 hz
        exact HM.out j z (by have := (List.getElem?_eq_some_iff.1 hj).1; have := Hl.out; omega) hj
      go_wp2
      go_ret2
      exact ⟨.inr ⟨bq, y, HY.out, HF.out, rfl⟩, hb⟩

set_option maxHeartbeats 4000000 in
theorem i_FewestCoats (x : DCoat) (A' : Option Addr) (n' c' : Nat) (A1 : Option Addr) (n1 c1 : Nat) (A2 : Option Addr) (n2 c2 : Nat) (g goal : List Int) (want : Int) (w : World) (hx : OkC x) (hr : Rd intE w A' n' x.fColour) (hr1 : Rd intE w A1 n1 g) (hr2 : Rd intE w A2 n2 goal) (hg : Col g) (hgoal : Col goal) (h0 : 0 ≤ want) (h1 : want ≤ 765) :
    Calls Tryz.prog 18 #[.agg #[.string x.fId, .int .i64 x.fDays, .int .i64 x.fCover, .slice A' n' c'], .slice A1 n1 c1, .slice A2 n2 c2, .int .i64 want] w fun e w' => ∃ v code, FewR x g goal want v code ∧ e = .returned (.tuple #[.int .i64 v, .int .i64 code]) ∧ Below w.heap.size w w' := by
  obtain rfl : n1 = 3 := by rw [← hr1.1]; exact hg.1
  have m' : n' ≤ maxLen := by rw [← hr.1, hx.col.1]; decide
  have m2 : n2 ≤ maxLen := by rw [← hr2.1, hgoal.1]; decide
  have e0 := hx.yes
  have e1 := col_yes hg
  have e2 := col_yes hgoal
  have HX := Lib.hid hx; have HG := Lib.hid hg; have HT := Lib.hid hgoal
  clear hx hg hgoal
  have R := range_new w #[.string x.fId, .int .i64 x.fDays, .int .i64 x.fCover, .slice A' n' c'] 36
  have ba : Below w.heap.size w (w.alloc (.cells #[.string x.fId, .int .i64 x.fDays, .int .i64 x.fCover, .slice A' n' c'] 36)) := (Below.refl _ _).alloc (Nat.le_refl _) _
  obtain ⟨W0, hW0⟩ : ∃ W, w.alloc (.cells #[.string x.fId, .int .i64 x.fDays, .int .i64 x.fCover, .slice A' n' c'] 36) = W := ⟨_, rfl⟩
  rw [hW0] at R ba
  obtain ⟨bx, hbx⟩ : ∃ b, w.heap.size = b := ⟨_, rfl⟩
  rw [hbx] at R
  have HR := Lib.hid R
  have u0 := R 0 _ rfl
  have u1 := R 1 _ rfl
  have u2 := R 2 _ rfl
  have u3 := R 3 _ rfl
  simp only [Nat.zero_add] at u0 u1 u2 u3
  have hsw := ba.size
  clear R
  go_enter Tryz.func18, Tryz.ntmps18
  go_wp2_with fail
  try rw [hW0]
  try rw [hbx]
  clear hW0
  refine (i_validCoat x A' n' c' W0 HX.out.size (hr.below ba) m').mono ?_
  rw [e0]
  rintro e w1 ⟨rfl, b1⟩
  clear u0 u1 u2 u3
  go_wp2_with fail
  refine (i_isColour A1 3 c1 g w1 (hr1.below (ba.trans (b1.mono hsw))) (by decide)).mono ?_
  rw [e1]
  rintro e w2 ⟨rfl, b2⟩
  have b12 := b1.trans (b2.mono b1.size)
  clear b1 b2
  go_wp2_with fail
  refine (i_isColour A2 n2 c2 goal w2 (hr2.below (ba.trans (b12.mono hsw))) m2).mono ?_
  rw [e2]
  rintro e w3 ⟨rfl, b3⟩
  have b13 := b12.trans (b3.mono b12.size)
  clear b12 b3 e0 e1 e2
  go_wp2_with fail
  refine (i_within _ _ _ _).mono ?_
  rintro e w4 ⟨rfl, rfl⟩
  rw [inB_true (by omega) (by omega)]
  have H0 : Hid (Rd intE w3 A1 3 (iterO x g 0)) := Lib.hid (hr1.below (ba.trans (b13.mono hsw)))
  go_wp2_with fail
  go_loopw [1, 10] (fun t i wr => ∃ (k : Nat) (B : Option Addr) (q : Nat), k ≤ 11 ∧ i = .int .i64 k ∧ t = .slice B 3 q ∧ Hid (Rd intE wr B 3 (iterO x g k)) ∧ Hid (Far x g goal want k) ∧ Below W0.heap.size W0 wr) (fun _ i _ => 11 - (intOf i).toNat)
  case atStart => exact ⟨0, A1, c1, by omega, rfl, rfl, H0, Lib.hid (far_zero x g goal want), b13⟩
  case round =>
    clear H0 b13
    obtain ⟨k, B, q, hk, rfl, rfl, HD, HF, hb⟩ := hrel
    have hbw := ba.trans (hb.mono hsw)
    by_cases hlt : k ≤ 10
    · have HC := Lib.hid (iter_col HX.out HG.out k)
      go_wp2_with fail
      refine (i_colourGap B 3 q A2 n2 c2 (iterO x g k) goal wr HD.out (hr2.below hbw) HC.out HT.out).mono ?_
      rintro e w5 ⟨rfl, rfl⟩
      obtain ⟨G, hG⟩ : ∃ G, gapL (iterO x g k) goal = G := ⟨_, rfl⟩
      rw [hG]
      by_cases hle : G ≤ want
      · have HE : Hid (FewR x g goal want k 0) := Lib.hid ⟨.inl ⟨rfl, k, rfl, hlt, by rw [hG]; exact hle, HF.out⟩⟩
        clear hG
        go_wp2
        go_ret2
        exact ⟨k, 0, HE.out, rfl, hbw⟩
      · have HN := Lib.hid (far_next HF.out (by rw [hG]; omega))
        have hrr := range_below (B := 0) HR.out hb
        have u0 := hrr 0 _ rfl
        have u1 := hrr 1 _ rfl
        have u2 := hrr 2 _ rfl
        have u3 := hrr 3 _ rfl
        simp only [Nat.zero_add] at u0 u1 u2 u3
        clear hG hrr
        go_wp2_with fail
        refine (i_over x A' n' c' B 3 q (iterO x g k) wr HX.out (hr.below hbw) HD.out HC.out).mono ?_
        rintro e w6 ⟨B6, q6, rfl, h6, b6⟩
        have H6 : Hid (Rd intE w6 B6 3 (iterO x g (k + 1))) := Lib.hid h6
        have hbN := hb.trans (b6.mono hb.size)
        clear h6 b6 u0 u1 u2 u3
        go_wp2
        first | (refine ⟨⟨k + 1, B6, q6, by omega, by go_num, rfl, H6, HN, hbN⟩, ?_⟩; (simp [intOf]; omega)) | (go_roundw; (case rel => first | exact ⟨k + 1, B6, q6, by omega, by go_num, rfl, H6, HN, hbN⟩ | ((try refine ⟨trivial, ?_⟩); (repeat apply Exists.intro); exact ⟨⟨k + 1, B6, q6, by omega, by go_num, rfl, H6, HN, hbN⟩, rfl⟩)); (case measure => (simp [intOf]; omega)))
    · have HE : Hid (FewR x g goal want 0 3) := Lib.hid ⟨.inr ⟨rfl, rfl, fun m hm => HF.out m (by omega)⟩⟩
      go_wp2
      go_ret2
      exact ⟨0, 3, HE.out, rfl, hbw⟩

theorem upto_get {A B : List Int} {j : Nat} (hj : j ≤ A.length) : (A.take j ++ B.drop j)[j]? = B[j]? := by
  rw [List.getElem?_append_right (by rw [List.length_take]; omega), List.length_take, Nat.min_eq_left hj, Nat.sub_self, List.getElem?_drop, Nat.add_zero]
theorem upto_set {A B : List Int} {j : Nat} {a b : Int} (ha : A[j]? = some a) (hb : B[j]? = some b) : (A.take j ++ B.drop j).set j a = A.take (j + 1) ++ B.drop (j + 1) := by
  have hj := (List.getElem?_eq_some_iff.1 ha).1
  have hl : (A.take j).length = j := by rw [List.length_take]; omega
  rw [drop_of_get hb, List.set_append_right _ _ (by omega), hl, Nat.sub_self, List.set_cons_zero, take_of_get ha, List.append_assoc]
  rfl
def mixS (p : List Int) (l : List DCoat) (k : Nat) : List Int := [partV p l 0 k, partV p l 1 k, partV p l 2 k]
def mixR (p : List Int) (l : List DCoat) : List Int := (mixS p l l.length).map fun s => dR s p.sum
theorem mixS_get (p : List Int) (l : List DCoat) (k : Nat) {j : Nat} (hj : j < 3) : (mixS p l k)[j]? = some (partV p l j k) := by
  match j, hj with
  | 0, _ => rfl
  | 1, _ => rfl
  | 2, _ => rfl
theorem mixR_get (p : List Int) (l : List DCoat) {j : Nat} (hj : j < 3) : (mixR p l)[j]? = some (dR (partV p l j l.length) p.sum) := by
  unfold mixR
  rw [List.getElem?_map, mixS_get p l _ hj]
  rfl
theorem part_small {p : List Int} {l : List DCoat} (hl : OkCs l) (hp : ∀ q ∈ p, 0 ≤ q ∧ q ≤ 5) (he : p.length = l.length) {j k : Nat} (hj : j < 3) (hk : k ≤ l.length) : 0 ≤ partV p l j k ∧ partV p l j k ≤ 5100 := by
  have h1 := partV_between (p := p) (l := l) (j := j) (low := 0) (high := 255) (fun q hq => (hp q hq).1) he (fun x hx => by
    obtain ⟨c, h1, h2⟩ := (hl.ok x hx).col.get hj
    exact ⟨c, h1, h2⟩) k hk
  have h2 := sum_range_of hp k (by omega)
  have h3 := hl.few
  omega
theorem GL.zeros3 (w : World) (et : TypeId) (base : Nat) (hb : base ≤ w.heap.size) : GL intE et base (w.alloc (.cells (madeCells #[.int .i64 0] 3) et)) (.slice (some ⟨w.heap.size, 0, none⟩) 3 3) [0, 0, 0] := by
  have h := toList_madeCells intE (z := #[.int .i64 0]) (x := 0) rfl 3
  have h2 := World.ownsRow_lit (base := base) (e := et) (size := 1) w (madeCells #[.int .i64 0] 3) 3 hb (by decide) (by rw [size_madeCells])
  rw [show (madeCells #[.int .i64 0] 3).toList = _ from h] at h2
  exact h2
def MixPost (p : List Int) (l : List DCoat) (w : World) (e : Ending) (w' : World) : Prop :=
  ((p.sum = 0 ∧ e = .returned (.tuple #[.slice none 0 0, .int .i64 7])) ∨ (0 < p.sum ∧ ∃ B q, e = .returned (.tuple #[.slice B 3 q, .int .i64 0]) ∧ Rd intE w' B 3 (mixR p l))) ∧ Below w.heap.size w w'
set_option maxHeartbeats 4000000 in
theorem i_MixColours (A : Option Addr) (n c : Nat) (l : List DCoat) (A1 : Option Addr) (c1 : Nat) (p : List Int) (w : World) (hr : RdCoat w A n l) (hr1 : Rd intE w A1 n p) (hok : OkCs l) (hp : ∀ q ∈ p, 0 ≤ q ∧ q ≤ 5) :
    Calls Tryz.prog 14 #[.slice A n c, .slice A1 n c1] w (MixPost p l w) := by
  have hn : n ≤ 4 := by rw [← hr.len]; exact hok.few
  have HO := Lib.hid hok; have HP := Lib.hid hp
  have Hl := Lib.hid hr.len
  have Hp := Lib.hid hr1.1
  clear hok hp
  have HSM : Hid (∀ j k : Nat, j < 3 → k ≤ n → 0 ≤ partV p l j k ∧ partV p l j k ≤ 5100) := Lib.hid fun j k hj hk => part_small HO.out HP.out (by rw [Hp.out, Hl.out]) hj (by rw [Hl.out]; exact hk)
  have HTM : Hid (∀ k : Nat, k ≤ n → 0 ≤ (p.take k).sum ∧ (p.take k).sum ≤ 5 * k) := Lib.hid fun k hk => sum_range_of HP.out k (by rw [Hp.out]; exact hk)
  have hmk : ∀ W : World, (Instr.makeSlice 26 (.int .i64 3) (.int .i64 3)).run Tryz.prog W = .ok (.slice (some ⟨W.heap.size, 0, none⟩) 3 3) (W.alloc (.cells (madeCells #[.int .i64 0] 3) 2)) := fun W => run_make_row' (P := Tryz.prog) 26 2 (.int .i64 0) 8 Tryz.underlying26 Tryz.info_v64 rfl .i64 .i64 3 (by omega) (by omega) W
  go_enter Tryz.func14, Tryz.ntmps14
  go_wp2_with fail
  refine (i_ValidCoats_yes A n c l w hr HO.out).mono ?_
  rintro e w1 ⟨rfl, b1⟩
  have p0 : GL intE 2 w.heap.size (w1.alloc (.cells (madeCells #[.int .i64 0] 3) 2)) (.slice (some ⟨w1.heap.size, 0, none⟩) 3 3) [0, 0, 0] := GL.zeros3 w1 _ _ b1.size
  have q0 : Below w.heap.size w (w1.alloc (.cells (madeCells #[.int .i64 0] 3) 2)) := b1.alloc b1.size _
  obtain ⟨W1, hW1⟩ : ∃ W, w1.alloc (.cells (madeCells #[.int .i64 0] 3) 2) = W := ⟨_, rfl⟩
  rw [hW1] at p0 q0
  obtain ⟨g, hg⟩ : ∃ g, w1.heap.size = g := ⟨_, rfl⟩
  rw [hg] at p0
  have hgw : w.heap.size ≤ g := by rw [← hg]; exact b1.size
  have HP0 : Hid (GL intE 2 w.heap.size W1 (.slice (some ⟨g, 0, none⟩) 3 3) (mixS p l 0)) := Lib.hid p0
  go_wp2_with fail
  try rw [hW1]
  try rw [hg]
  clear hW1 hg b1 p0 hmk
  go_loopw [6, 24] (fun t i wr => ∃ k : Nat, k ≤ n ∧ i = .int .i64 k ∧ t = .int .i64 (p.take k).sum ∧ Hid (GL intE 2 w.heap.size wr (.slice (some ⟨g, 0, none⟩) 3 3) (mixS p l k)) ∧ Below w.heap.size w wr) (fun _ i _ => n - (intOf i).toNat)
  case atStart => exact ⟨0, Nat.zero_le _, rfl, rfl, HP0, q0⟩
  case round =>
    clear HP0 q0
    obtain ⟨k, hk, rfl, rfl, HGL, hb⟩ := hrel
    have hT := HTM.out k hk
    by_cases hlt : k < n
    · obtain ⟨b, off, v, rfl, hv, hcs⟩ := (hr1.below hb).get hlt
      have h0 := hcs 0 _ rfl
      simp only [intE, Nat.mul_one, Nat.add_zero] at h0
      obtain ⟨bl, ol, x, A', n', c', rfl, hx, hcx, hru⟩ := hr.get hlt
      have hcx := range_below (B := 0) hcx hb
      have hx3 := hcx 3 _ rfl
      have HOX := Lib.hid (HO.out.ok x (List.mem_of_getElem? hx))
      obtain rfl : n' = 3 := by rw [← hru.1]; exact HOX.out.col.1
      have hvr := HP.out v (List.mem_of_getElem? hv)
      have HSN := Lib.hid (sum_take_next hv)
      have HV := Lib.hid hv
      have HX := Lib.hid hx
      have HRU := Lib.hid hru
      obtain ⟨T, hTe⟩ : ∃ T, (p.take k).sum = T := ⟨_, rfl⟩
      rw [hTe] at HSN hT ⊢
      have HG1 : Hid (GL intE 2 w.heap.size wr (.slice (some ⟨g, 0, none⟩) 3 3) ((mixS p l (k + 1)).take 0 ++ (mixS p l k).drop 0)) := Lib.hid HGL.out
      clear hcs hv hx hcx hru hTe HGL
      go_wp2_with fail
      refine (i_within _ _ _ _).mono ?_
      rintro e w2 ⟨rfl, rfl⟩
      rw [inB_true (by omega) (by omega)]
      go_wp2_with fail
      obtain ⟨wo, hwo⟩ : ∃ wo : World, wo = wr := ⟨_, rfl⟩
      subst hwo
      clear h0 hx3
      go_loopw [41] (fun i wr => ∃ j : Nat, j ≤ 3 ∧ i = .int .i64 j ∧ Hid (GL intE 2 w.heap.size wr (.slice (some ⟨g, 0, none⟩) 3 3) ((mixS p l (k + 1)).take j ++ (mixS p l k).drop j)) ∧ Below w.heap.size w wr) (fun i _ => 3 - (intOf i).toNat)
      case atStart => exact ⟨0, by omega, rfl, HG1, hb⟩
      case round =>
        clear HG1 hb
        obtain ⟨j, hj, rfl, HGL, hb⟩ := hrel
        by_cases hj3 : j < 3
        · obtain ⟨b2, off2, u, hA2, hu, hcu⟩ := (HRU.out.below hb).get hj3
          subst hA2
          have h1 := hcu 0 _ rfl
          simp only [intE, Nat.mul_one, Nat.add_zero] at h1
          have hur := HOX.out.col.of hu
          have hgl := HGL.out
          have hold := mixS_get p l k hj3
          have hnew := mixS_get p l (k + 1) hj3
          have hsm := HSM.out j k hj3 hk
          have hcell := hgl.cellI (upto_get (A := mixS p l (k + 1)) (B := mixS p l k) (j := j) (by show j ≤ 3; omega) ▸ hold)
          have HNX : Hid (partV p l j (k + 1) = partV p l j k + v * u) := Lib.hid (partV_next HV.out HX.out hu)
          have hfr := hgl.free j
          have hvu : 0 ≤ v * u ∧ v * u ≤ 1275 := by
            have a1 := Int.mul_nonneg hvr.1 hur.1
            have a2 := Int.mul_le_mul hvr.2 hur.2 hur.1 (by omega)
            omega
          have hset := hgl.setI (j := j) hj3 (partV p l j k + v * u)
          rw [← HNX.out, upto_set hnew hold] at hset
          obtain ⟨O, hO⟩ : ∃ O, partV p l j k = O := ⟨_, rfl⟩
          rw [hO] at hcell hsm HNX
          rw [HNX.out] at hset
          have HST := Lib.hid hset
          have hb3 := hb.setCell (p := ⟨g, j, none⟩) hgw (.int .i64 (O + v * u))
          clear hgl hold hnew hset hO hcu hu HGL
          go_wp2
          first | (refine ⟨⟨j + 1, by omega, by go_num, HST, hb3⟩, ?_⟩; (simp [intOf]; omega)) | (go_roundw; (case rel => first | exact ⟨j + 1, by omega, by go_num, HST, hb3⟩ | ((try refine ⟨trivial, ?_⟩); (repeat apply Exists.intro); exact ⟨⟨j + 1, by omega, by go_num, HST, hb3⟩, rfl⟩)); (case measure => (simp [intOf]; omega)))
        · obtain rfl : j = 3 := by omega
          have HG3 : Hid (GL intE 2 w.heap.size wr (.slice (some ⟨g, 0, none⟩) 3 3) (mixS p l (k + 1))) := Lib.hid (by have h := HGL.out; rw [show (mixS p l (k + 1)).take 3 ++ (mixS p l k).drop 3 = mixS p l (k + 1) from rfl] at h; exact h)
          clear HGL
          go_wp2
          first | (refine ⟨⟨k + 1, by omega, by go_num, by rw [HSN.out], HG3, hb⟩, ?_⟩; (simp [intOf]; omega)) | (go_roundw; (case rel => first | exact ⟨k + 1, by omega, by go_num, by rw [HSN.out], HG3, hb⟩ | ((try refine ⟨trivial, ?_⟩); (repeat apply Exists.intro); exact ⟨⟨k + 1, by omega, by go_num, by rw [HSN.out], HG3, hb⟩, rfl⟩)); (case measure => (simp [intOf]; omega)))
    · obtain rfl : k = n := by omega
      have E1 : Hid ((p.take k).sum = p.sum) := Lib.hid (by rw [List.take_of_length_le (Nat.le_of_eq Hp.out)])
      rw [E1.out] at hT ⊢
      obtain ⟨T, hTe⟩ : ∃ T, p.sum = T := ⟨_, rfl⟩
      have HTE := Lib.hid hTe
      rw [hTe] at hT ⊢
      clear hTe
      by_cases hz : T = 0
      · subst hz
        go_wp2
        go_ret2
        exact ⟨.inl ⟨HTE.out, rfl⟩, hb⟩
      · have hne : (T == 0) = false := by rw [beq_eq_false_iff_ne]; exact hz
        have hT1 : 1 ≤ T := by omega
        have HG1 : Hid (GL intE 2 w.heap.size wr (.slice (some ⟨g, 0, none⟩) 3 3) ((mixR p l).take 0 ++ (mixS p l k).drop 0)) := Lib.hid HGL.out
        clear HGL hz
        go_wp2_with fail
        obtain ⟨wo, hwo⟩ : ∃ wo : World, wo = wr := ⟨_, rfl⟩
        subst hwo
        go_loopw [61] (fun i wr => ∃ j : Nat, j ≤ 3 ∧ i = .int .i64 j ∧ Hid (GL intE 2 w.heap.size wr (.slice (some ⟨g, 0, none⟩) 3 3) ((mixR p l).take j ++ (mixS p l k).drop j)) ∧ Below w.heap.size w wr) (fun i _ => 3 - (intOf i).toNat)
        case atStart => exact ⟨0, by omega, rfl, HG1, hb⟩
        case round =>
          clear HG1 hb
          obtain ⟨j, hj, rfl, HGL, hb⟩ := hrel
          by_cases hj3 : j < 3
          · have hgl := HGL.out
            have hold := mixS_get p l k hj3
            have hnew := mixR_get p l hj3
            have hsm := HSM.out j k hj3 hk
            have hcell := hgl.cellI (upto_get (A := mixR p l) (B := mixS p l k) (j := j) (by show j ≤ 3; omega) ▸ hold)
            have hfr := hgl.free j
            have hset := hgl.setI (j := j) hj3 (dR (partV p l j l.length) p.sum)
            rw [upto_set hnew hold, HTE.out, Hl.out] at hset
            obtain ⟨O, hO⟩ : ∃ O, partV p l j k = O := ⟨_, rfl⟩
            rw [hO] at hcell hsm hset
            have HST := Lib.hid hset
            have hb3 := hb.setCell (p := ⟨g, j, none⟩) hgw (.int .i64 (dR O T))
            clear hgl hold hnew hset hO HGL
            go_wp2_with fail
            refine (i_divRound _ _ _ (by omega) (by omega) (by omega) (by omega)).mono ?_
            rintro e w5 ⟨rfl, rfl⟩
            go_wp2
            first | (refine ⟨⟨j + 1, by omega, by go_num, HST, hb3⟩, ?_⟩; (simp [intOf]; omega)) | (go_roundw; (case rel => first | exact ⟨j + 1, by omega, by go_num, HST, hb3⟩ | ((try refine ⟨trivial, ?_⟩); (repeat apply Exists.intro); exact ⟨⟨j + 1, by omega, by go_num, HST, hb3⟩, rfl⟩)); (case measure => (simp [intOf]; omega)))
          · obtain rfl : j = 3 := by omega
            have HG3 : Hid (Rd intE wr (some ⟨g, 0, none⟩) 3 (mixR p l)) := Lib.hid (by have h := HGL.out; rw [show (mixR p l).take 3 ++ (mixS p l k).drop 3 = mixR p l from rfl] at h; exact h.rd)
            clear HGL
            go_wp2
            go_ret2
            exact ⟨.inr ⟨by rw [HTE.out]; omega, _, _, rfl, HG3.out⟩, hb⟩

end Go.Proofs.YtbdjhecbingcjaaGreatDoor
