/- Visits: valid lists, customers, kinds, what one has spent. Printed by a program of mine. Visits: kinds; the reference's sums. Printed by a program of mine. -/
import Derived.Test.YtbgmhlbcohdobaaGreatDoorRows
import Derived.Test.YtbgmhlbcohdobaaGreatDoorCustI
import Derived.Test.YtbgmhlbcohdobaaGreatDoorCount
import Derived.Deep.RegionHeld3
import Derived.StillTailTactics
namespace Go.Proofs.YtbgmhlbcohdobaaGreatDoor
set_option linter.unusedVariables false
set_option linter.unusedSimpArgs false
set_option linter.unusedSectionVars false
open Go.RowKit

theorem wid {a : Int} (h : -9223372036854775808 ≤ a ∧ a ≤ 9223372036854775807) : IntKind.i64.wrap a = a := IntWalk.i64_in _ h
set_option maxRecDepth 100000 in
set_option maxHeartbeats 2000000 in
theorem i_ValidVisits (A : Option Addr) (n c : Nat) (l : List DVisit) (w : World) (hr : Rd visitE w A n l) (hok : OkVs l) :
    Calls Tryz.prog 9 #[.slice A n c] w (RetB true w) := by
  have Hl := Lib.hid hr.1
  have hn : n ≤ 9 := by have := hok.few; have := hr.1; omega
  have HO := Lib.hid hok
  have HR := Lib.hid hr
  clear hok hr
  go_enter Tryz.func9, Tryz.ntmps9
  go_wp2_with fail
  go_loopw [7] (fun i wr => ∃ k : Nat, k ≤ n ∧ i = .int .i64 k ∧ Below w.heap.size w wr) (fun i _ => n - (intOf i).toNat)
  case atStart => exact ⟨0, Nat.zero_le _, rfl, Below.refl _ _⟩
  case round =>
    obtain ⟨k, hk, rfl, hb⟩ := hrel
    by_cases hlt : k < n
    · skip
      obtain ⟨b, off, rfl, hcs⟩ := HR.out.2 (by omega)
      obtain ⟨x, hx⟩ : ∃ x, l[k]? = some x := ⟨_, List.getElem?_eq_getElem (by have := Hl.out; omega)⟩
      have hcr := range_below (B := 0) (hcs k x hx) hb
      have hc0 := hcr 0 _ rfl
      have hc1 := hcr 1 _ rfl
      have hc2 := hcr 2 _ rfl
      have hc3 := hcr 3 _ rfl
      simp only [visitE, Nat.add_zero] at hc0 hc1 hc2 hc3
      have HX := Lib.hid hx
      have HCS := Lib.hid hcs
      clear hcr hx hcs
      have hcx := range_new wr #[.int .i64 x.fDay, .string x.fWho, .int .i64 x.fKind, .int .i64 x.fAmount] 35
      have hba : Below wr.heap.size wr (wr.alloc (.cells #[.int .i64 x.fDay, .string x.fWho, .int .i64 x.fKind, .int .i64 x.fAmount] 35)) := (Below.refl _ _).alloc (Nat.le_refl _) _
      obtain ⟨W0, hW0⟩ : ∃ W0, wr.alloc (.cells #[.int .i64 x.fDay, .string x.fWho, .int .i64 x.fKind, .int .i64 x.fAmount] 35) = W0 := ⟨_, rfl⟩
      rw [hW0] at hcx hba
      have hx0 := hcx 0 _ rfl
      have hx1 := hcx 1 _ rfl
      have hx2 := hcx 2 _ rfl
      have hx3 := hcx 3 _ rfl
      simp only [Nat.zero_add] at hx0 hx1 hx2 hx3
      clear hcx
      have hb0 := hb.trans (hba.mono hb.size)
      have HV : Hid (∀ W, Calls Tryz.prog 25 #[.agg #[.int .i64 x.fDay, .string x.fWho, .int .i64 x.fKind, .int .i64 x.fAmount]] W (RetB true W)) := Lib.hid fun W => i_validVisit x W (HO.out.ok x (mem_of_get HX.out))
      obtain hk0 | ⟨j, hk0⟩ : k = 0 ∨ ∃ j, k = j + 1 := by cases k with
        | zero => exact .inl rfl
        | succ j => exact .inr ⟨j, rfl⟩
      · subst hk0
        rw [Nat.zero_mul, Nat.add_zero] at hc0 hc1 hc2 hc3
        go_wp2_with fail
        try rw [hW0]
        clear hW0 hc0 hc1 hc2 hc3
        let S : World → Prop := fun w' => w'.cell? ⟨wr.heap.size, 0, none⟩ = some (.int .i64 x.fDay) ∧ w'.cell? ⟨wr.heap.size, 1, none⟩ = some (.string x.fWho) ∧ w'.cell? ⟨wr.heap.size, 2, none⟩ = some (.int .i64 x.fKind) ∧ w'.cell? ⟨wr.heap.size, 3, none⟩ = some (.int .i64 x.fAmount) ∧ Below w.heap.size w w'
        have hS : S (World.drew W0) := ⟨hx0, hx1, hx2, hx3, (hb0).drew⟩
        have hne : Nonempty (Wd S) := ⟨⟨_, hS⟩⟩
        have qc0 : ∀ t : Wd S, t.w.cell? ⟨wr.heap.size, 0, none⟩ = some (.int .i64 x.fDay) := fun t => t.h.1
        have qc1 : ∀ t : Wd S, t.w.cell? ⟨wr.heap.size, 1, none⟩ = some (.string x.fWho) := fun t => t.h.2.1
        have qc2 : ∀ t : Wd S, t.w.cell? ⟨wr.heap.size, 2, none⟩ = some (.int .i64 x.fKind) := fun t => t.h.2.2.1
        have qc3 : ∀ t : Wd S, t.w.cell? ⟨wr.heap.size, 3, none⟩ = some (.int .i64 x.fAmount) := fun t => t.h.2.2.2.1
        have Q9 : Hid (∀ (t : Wd S) (w' : World), Below t.w.heap.size t.w w' → S w') := Lib.hid (fun t w' h => ⟨cell_later h t.h.1, cell_later h t.h.2.1, cell_later h t.h.2.2.1, cell_later h t.h.2.2.2.1, t.h.2.2.2.2.trans (h.mono t.h.2.2.2.2.size)⟩)
        have QE : Hid (∀ w', S w' → w'.cell? ⟨wr.heap.size, 0, none⟩ = some (.int .i64 x.fDay) ∧ w'.cell? ⟨wr.heap.size, 1, none⟩ = some (.string x.fWho) ∧ w'.cell? ⟨wr.heap.size, 2, none⟩ = some (.int .i64 x.fKind) ∧ w'.cell? ⟨wr.heap.size, 3, none⟩ = some (.int .i64 x.fAmount) ∧ Below w.heap.size w w') := Lib.hid (fun w' h => h)
        refine wp_region_class S (by kernel_rfl) (by kernel_rfl) hS ?_
        clear_value S
        repeat (go_big_quiet_step ((first | (go_at_call 25; exact class_call _ (HV.out _) (fun e w' h => ⟨h.1, Q9.out _ _ h.2⟩)))))
        refine wpQuiet_nil ?_
        rintro _ ⟨⟨w1, hw1⟩, rfl⟩
        have hE := QE.out _ hw1
        have hb2 := hE.2.2.2.2
        clear hE
        try dsimp only
        clear hw1 hS hne Q9 QE qc0 qc1 qc2 qc3
        go_wp2
        first | (refine ⟨⟨1, by omega, by go_num, hb2⟩, ?_⟩; (simp [intOf]; omega)) | (go_roundw; (case rel => first | exact ⟨1, by omega, by go_num, hb2⟩ | ((try refine ⟨trivial, ?_⟩); (repeat apply Exists.intro); exact ⟨⟨1, by omega, by go_num, hb2⟩, rfl⟩)); (case measure => (simp [intOf]; omega)))
      · subst hk0
        obtain ⟨p, hp⟩ : ∃ p, l[j]? = some p := ⟨_, List.getElem?_eq_getElem (by have := Hl.out; omega)⟩
        have hp0 := range_below (B := 0) (range_below (B := 0) (HCS.out j p hp) hb) hba 0 _ rfl
        simp only [visitE, Nat.add_zero] at hp0
        have hle := HO.out.asc j p x hp HX.out
        have hlt2 : ¬ x.fDay < p.fDay := by omega
        have hgt : decide (x.fDay < p.fDay) = false := decide_eq_false hlt2
        clear hp hle
        go_wp2_with fail
        try rw [hW0]
        clear hW0 hc0 hc1 hc2 hc3
        let S : World → Prop := fun w' => w'.cell? ⟨wr.heap.size, 0, none⟩ = some (.int .i64 x.fDay) ∧ w'.cell? ⟨wr.heap.size, 1, none⟩ = some (.string x.fWho) ∧ w'.cell? ⟨wr.heap.size, 2, none⟩ = some (.int .i64 x.fKind) ∧ w'.cell? ⟨wr.heap.size, 3, none⟩ = some (.int .i64 x.fAmount) ∧ w'.cell? ⟨b, off + j * 4, none⟩ = some (.int .i64 p.fDay) ∧ Below w.heap.size w w'
        have hS : S (World.drew W0) := ⟨hx0, hx1, hx2, hx3, hp0, (hb0).drew⟩
        have hne : Nonempty (Wd S) := ⟨⟨_, hS⟩⟩
        have qc0 : ∀ t : Wd S, t.w.cell? ⟨wr.heap.size, 0, none⟩ = some (.int .i64 x.fDay) := fun t => t.h.1
        have qc1 : ∀ t : Wd S, t.w.cell? ⟨wr.heap.size, 1, none⟩ = some (.string x.fWho) := fun t => t.h.2.1
        have qc2 : ∀ t : Wd S, t.w.cell? ⟨wr.heap.size, 2, none⟩ = some (.int .i64 x.fKind) := fun t => t.h.2.2.1
        have qc3 : ∀ t : Wd S, t.w.cell? ⟨wr.heap.size, 3, none⟩ = some (.int .i64 x.fAmount) := fun t => t.h.2.2.2.1
        have qc4 : ∀ t : Wd S, t.w.cell? ⟨b, off + j * 4, none⟩ = some (.int .i64 p.fDay) := fun t => t.h.2.2.2.2.1
        have Q9 : Hid (∀ (t : Wd S) (w' : World), Below t.w.heap.size t.w w' → S w') := Lib.hid (fun t w' h => ⟨cell_later h t.h.1, cell_later h t.h.2.1, cell_later h t.h.2.2.1, cell_later h t.h.2.2.2.1, cell_later h t.h.2.2.2.2.1, t.h.2.2.2.2.2.trans (h.mono t.h.2.2.2.2.2.size)⟩)
        have QE : Hid (∀ w', S w' → w'.cell? ⟨wr.heap.size, 0, none⟩ = some (.int .i64 x.fDay) ∧ w'.cell? ⟨wr.heap.size, 1, none⟩ = some (.string x.fWho) ∧ w'.cell? ⟨wr.heap.size, 2, none⟩ = some (.int .i64 x.fKind) ∧ w'.cell? ⟨wr.heap.size, 3, none⟩ = some (.int .i64 x.fAmount) ∧ w'.cell? ⟨b, off + j * 4, none⟩ = some (.int .i64 p.fDay) ∧ Below w.heap.size w w') := Lib.hid (fun w' h => h)
        refine wp_region_class S (by kernel_rfl) (by kernel_rfl) hS ?_
        clear_value S
        repeat (go_big_quiet_step ((first | (go_at_call 25; exact class_call _ (HV.out _) (fun e w' h => ⟨h.1, Q9.out _ _ h.2⟩)))))
        refine wpQuiet_nil ?_
        rintro _ ⟨⟨w1, hw1⟩, rfl⟩
        have hE := QE.out _ hw1
        have hb2 := hE.2.2.2.2.2
        clear hE
        try dsimp only
        clear hw1 hS hne Q9 QE qc0 qc1 qc2 qc3 qc4
        go_wp2
        first | (refine ⟨⟨j + 2, by omega, by go_num, hb2⟩, ?_⟩; (simp [intOf]; omega)) | (go_roundw; (case rel => first | exact ⟨j + 2, by omega, by go_num, hb2⟩ | ((try refine ⟨trivial, ?_⟩); (repeat apply Exists.intro); exact ⟨⟨j + 2, by omega, by go_num, hb2⟩, rfl⟩)); (case measure => (simp [intOf]; omega)))
    · have hf : decide ((n : Int) ≤ 32) = true := decide_eq_true (by omega)
      go_wp2_with fail
      refine (i_few _ _ _ (by omega) (by omega)).mono ?_
      rintro e w' ⟨rfl, rfl⟩
      go_wp2
      go_ret
      exact ⟨ret_bool (by first | exact hf | (simp; done) | (simp; omega)), hb⟩

set_option maxRecDepth 100000 in
set_option maxHeartbeats 1000000 in
theorem i_visitsOf (A : Option Addr) (n c : Nat) (l : List DVisit) (s : ByteArray) (w : World) (hr : Rd visitE w A n l) (hn : n ≤ 1000) :
    Calls Tryz.prog 38 #[.slice A n c, .string s] w fun e w' => ∃ (g m c' : Nat), m ≤ n ∧ e = .returned (.slice (some ⟨g, 0, none⟩) m c') ∧ GL visitE 35 w.heap.size w' (.slice (some ⟨g, 0, none⟩) m c') (l.filter (isWho s)) ∧ Below w.heap.size w w' := by
  have hb0 : Below w.heap.size w (w.alloc (.cells #[.string s] 9)) := (Below.refl _ _).alloc (Nat.le_refl _) _
  have hq : (w.alloc (.cells #[.string s] 9)).cell? ⟨w.heap.size, 0, none⟩ = some (.string s) := range_new w #[.string s] 9 0 _ rfl
  obtain ⟨W0, hW0⟩ : ∃ W0, w.alloc (.cells #[.string s] 9) = W0 := ⟨_, rfl⟩
  have hz : W0.heap.size = w.heap.size + 1 := by rw [← hW0]; simp
  rw [hW0] at hb0 hq
  have HZ := Lib.hid hz
  clear hz
  go_enter Tryz.func38, Tryz.ntmps38
  go_wp2_with fail
  try rw [hW0]
  clear hW0
  refine (i_cloneVisit A n c l W0 (hr.below hb0) (by omega)).mono ?_
  rintro e w1 ⟨g, rfl, hgl, hb1⟩
  have hq1 := cell_later hb1 hq
  have hbF := hb0.trans (hb1.mono hb0.size)
  have hs1 := hb1.size
  clear hq hbF
  go_wp2_with fail
  refine (i_DeleteVisits g n n w.heap.size W0.heap.size s l w1 W0 hgl (by omega) hq1 (by have := HZ.out; omega) hb1 hs1).mono ?_
  rintro e w2 ⟨m, hm, rfl, hgl2, hb2⟩
  go_wp2
  go_ret
  exact ⟨g, m, n, hm, rfl, hgl2.mono (by have := HZ.out; omega), hb0.trans (hb2.mono hb0.size)⟩
set_option maxRecDepth 100000 in
set_option maxHeartbeats 2000000 in
theorem i_spent (A : Option Addr) (n c : Nat) (l : List DVisit) (s : ByteArray) (w : World) (hr : Rd visitE w A n l) (hok : OkVs l) :
    Calls Tryz.prog 23 #[.slice A n c, .string s] w fun e w' => e = .returned (.int .i64 (spB l s)) ∧ Below w.heap.size w w' := by
  have hn : n ≤ 9 := by have := hok.few; have := hr.1; omega
  have HO := Lib.hid hok
  go_enter Tryz.func23, Tryz.ntmps23
  go_wp2_with fail
  refine (i_visitsOf A n c l s w hr (by omega)).mono ?_
  rintro e w1 ⟨g, m, c', hm, rfl, hgl, hb1⟩
  have HF := Lib.hid (sp_filter s l)
  have HM : Hid (∀ x ∈ l.filter (isWho s), 0 ≤ x.fAmount ∧ x.fAmount ≤ 5900) := Lib.hid fun x hx => HO.out.amt x (List.mem_filter.1 hx).1
  have HR := Lib.hid hgl.rd
  have Hl := Lib.hid hgl.len
  have HB1 := Lib.hid hb1
  clear hr hok hgl hb1
  obtain ⟨L, hL⟩ : ∃ L, l.filter (isWho s) = L := ⟨_, rfl⟩
  rw [hL] at HF HM HR Hl
  clear hL
  go_wp2_with fail
  go_loopw [5, 12] (fun v i wr => ∃ k : Nat, k ≤ m ∧ i = .int .i64 k ∧ v = .int .i64 (sumBy (fun x : DVisit => x.fAmount) (L.take k)) ∧ Below w1.heap.size w1 wr) (fun _ i _ => m - (intOf i).toNat)
  case atStart => exact ⟨0, Nat.zero_le _, rfl, rfl, Below.refl _ _⟩
  case round =>
    obtain ⟨k, hk, rfl, rfl, hb⟩ := hrel
    have hlo := sum_range (l := L.take k) (fun x hx => HM.out x (List.mem_of_mem_take hx)) (by rw [List.length_take]; omega)
    by_cases hlt : k < m
    · skip
      obtain ⟨b, off, hA, hcs⟩ := HR.out.2 (by omega)
      cases hA
      obtain ⟨x, hx⟩ : ∃ x, L[k]? = some x := ⟨_, List.getElem?_eq_getElem (by have := Hl.out; omega)⟩
      have hcr := range_below (B := 0) (hcs k x hx) hb
      have hc0 := hcr 0 _ rfl
      have hc1 := hcr 1 _ rfl
      have hc2 := hcr 2 _ rfl
      have hc3 := hcr 3 _ rfl
      simp only [visitE, Nat.add_zero, Nat.zero_add] at hc0 hc1 hc2 hc3
      have HX := Lib.hid hx
      have HCS := Lib.hid hcs
      clear hcr hx hcs
      have hxa := HM.out x (mem_of_get HX.out)
      have HS : Hid (sumBy (fun x : DVisit => x.fAmount) (L.take (k + 1)) = sumBy (fun x : DVisit => x.fAmount) (L.take k) + x.fAmount) := Lib.hid (sumBy_take HX.out)
      obtain ⟨S, hS⟩ : ∃ S, sumBy (fun x : DVisit => x.fAmount) (L.take k) = S := ⟨_, rfl⟩
      rw [hS] at hlo HS ⊢
      clear hS
      have hcx := range_new wr #[.int .i64 x.fDay, .string x.fWho, .int .i64 x.fKind, .int .i64 x.fAmount] 35
      have hba : Below wr.heap.size wr (wr.alloc (.cells #[.int .i64 x.fDay, .string x.fWho, .int .i64 x.fKind, .int .i64 x.fAmount] 35)) := (Below.refl _ _).alloc (Nat.le_refl _) _
      obtain ⟨W0, hW0⟩ : ∃ W0, wr.alloc (.cells #[.int .i64 x.fDay, .string x.fWho, .int .i64 x.fKind, .int .i64 x.fAmount] 35) = W0 := ⟨_, rfl⟩
      rw [hW0] at hcx hba
      have hx0 := hcx 0 _ rfl
      have hx1 := hcx 1 _ rfl
      have hx2 := hcx 2 _ rfl
      have hx3 := hcx 3 _ rfl
      simp only [Nat.zero_add] at hx0 hx1 hx2 hx3
      clear hcx
      have hb0 := hb.trans (hba.mono hb.size)
      go_wp2_with fail
      first | (refine ⟨⟨k + 1, by omega, by go_num, by rw [HS.out], (by assumption)⟩, ?_⟩; (simp [intOf]; omega)) | (go_roundw; (case rel => first | exact ⟨k + 1, by omega, by go_num, by rw [HS.out], (by assumption)⟩ | ((try refine ⟨trivial, ?_⟩); (repeat apply Exists.intro); exact ⟨⟨k + 1, by omega, by go_num, by rw [HS.out], (by assumption)⟩, rfl⟩)); (case measure => (simp [intOf]; omega)))
    · obtain rfl : m = k := by omega
      have E : sumBy (fun x : DVisit => x.fAmount) (L.take m) = spB l s := by rw [List.take_of_length_le (by rw [Hl.out]; exact Nat.le_refl _)]; exact HF.out
      rw [E]
      clear E hlo
      have hbF := HB1.out.trans (hb.mono HB1.out.size)
      go_wp2
      go_ret
      exact ⟨rfl, hbF⟩
theorem i_SpentBy (A : Option Addr) (n c : Nat) (l : List DVisit) (s : ByteArray) (w : World) (hr : Rd visitE w A n l) (hok : OkVs l) :
    Calls Tryz.prog 14 #[.slice A n c, .string s] w fun e w' => e = .returned (.tuple #[.int .i64 (spB l s), .int .i64 0]) ∧ Below w.heap.size w w' := by
  have HO := Lib.hid hok
  clear hok
  go_enter Tryz.func14, Tryz.ntmps14
  go_wp2_with fail
  refine (i_ValidVisits A n c l w hr HO.out).mono ?_
  rintro e w1 ⟨rfl, hb1⟩
  go_wp2_with fail
  refine (i_spent A n c l s w1 (hr.below hb1) HO.out).mono ?_
  rintro e w2 ⟨rfl, hb2⟩
  go_wp2
  go_ret2
  exact ⟨rfl, hb1.trans (hb2.mono hb1.size)⟩
set_option maxHeartbeats 1000000 in
theorem i_CreditOf (A : Option Addr) (n c : Nat) (l : List DVisit) (s : ByteArray) (per : Int) (w : World) (hr : Rd visitE w A n l) (hok : OkVs l) (h1 : 1 ≤ per) (h2 : per ≤ 4000) :
    Calls Tryz.prog 15 #[.slice A n c, .string s, .int .i64 per, .int .i64 7] w fun e w' => e = .returned (.tuple #[.int .i64 (spB l s / per * 7), .int .i64 0]) ∧ Below w.heap.size w w' := by
  have HO := Lib.hid hok
  have hsp := hok.sp s
  have hcall : ∀ W, Rd visitE W A n l → Calls Tryz.prog 23 #[.slice A n c, .string s] W fun e w' => e = .returned (.int .i64 (spB l s)) ∧ Below W.heap.size W w' := fun W h => i_spent A n c l s W h hok
  obtain ⟨S, hS⟩ : ∃ S, spB l s = S := ⟨_, rfl⟩
  rw [hS] at hcall hsp ⊢
  have HC := Lib.hid hcall
  clear hok hS hcall
  have d0 : 0 ≤ S / per := Int.ediv_nonneg hsp.1 (by omega)
  have d1 : S / per ≤ S := Int.ediv_le_self _ hsp.1
  have d2 : S.tdiv per = S / per := Int.tdiv_eq_ediv_of_nonneg hsp.1
  obtain ⟨Q, hQ⟩ : ∃ Q, S / per = Q := ⟨_, rfl⟩
  rw [hQ] at d0 d1 d2 ⊢
  clear hQ
  go_enter Tryz.func15, Tryz.ntmps15
  go_wp2_with fail
  refine (i_ValidVisits A n c l w hr HO.out).mono ?_
  rintro e w1 ⟨rfl, hb1⟩
  go_wp2_with fail
  refine (i_within _ _ _ _).mono ?_
  rintro e w' ⟨rfl, rfl⟩
  rw [inB_true (by omega) (by omega)]
  go_wp2_with fail
  refine (i_isMoney _ _).mono ?_
  rintro e w' ⟨rfl, rfl⟩
  rw [inB_true (by omega) (by omega)]
  go_wp2_with fail
  refine (HC.out w1 (hr.below hb1)).mono ?_
  rintro e w2 ⟨rfl, hb2⟩
  have hbF := hb1.trans (hb2.mono hb1.size)
  have d3 : IntKind.i64.wrap Q = Q := wid (by omega)
  have d4 : IntKind.i64.wrap (Q * 7) = Q * 7 := wid (by omega)
  have d5 : ¬ 1000000000000 < Q * 7 := by omega
  have d6 : (per == 0) = false := by rw [beq_eq_false_iff_ne]; omega
  have d7 : ¬ per = 0 := by omega
  clear hb1 hb2
  go_wp2
  go_ret2
  exact ⟨rfl, hbF⟩
set_option maxRecDepth 100000 in
set_option maxHeartbeats 2000000 in
theorem i_customers (A : Option Addr) (n c : Nat) (l : List DVisit) (w : World) (hr : Rd visitE w A n l) (hn : n ≤ 1000) :
    Calls Tryz.prog 19 #[.slice A n c] w fun e w' => ∃ (g m c' : Nat), e = .returned (.slice (some ⟨g, 0, none⟩) m c') ∧ GL strE 9 w.heap.size w' (.slice (some ⟨g, 0, none⟩) m c') (uniqB (sortB (l.map fun x => x.fWho))) ∧ Below w.heap.size w w' := by
  obtain ⟨i0, hi, hz0, hz1, hz2⟩ := info_parts Tryz.info_str
  have HZ := Lib.hid (And.intro hz1 hz2)
  clear hz1 hz2
  have Hl := Lib.hid hr.1
  have HR := Lib.hid hr
  clear hr
  have HG0 : Hid (GL strE 9 w.heap.size (w.alloc (.cells #[] 9)) (.slice (some ⟨w.heap.size, 0, none⟩) 0 0) []) := Lib.hid (GL.mk0 (Nat.le_refl _))
  have hbS : Below w.heap.size w (w.alloc (.cells #[] 9)) := (Below.refl _ _).alloc (Nat.le_refl _) _
  go_enter Tryz.func19, Tryz.ntmps19
  go_wp2_with fail
  go_loopw [3, 9] (fun v i wr => ∃ (k g c' : Nat), k ≤ n ∧ i = .int .i64 k ∧ v = .slice (some ⟨g, 0, none⟩) k c' ∧ Hid (GL strE 9 w.heap.size wr (.slice (some ⟨g, 0, none⟩) k c') ((l.take k).map fun x => x.fWho)) ∧ Below w.heap.size w wr) (fun _ i _ => n - (intOf i).toNat)
  case atStart => exact ⟨0, _, 0, Nat.zero_le _, rfl, rfl, HG0, hbS⟩
  case round =>
    obtain ⟨k, g, c', hk, rfl, rfl, HGL, hb⟩ := hrel
    clear HG0 hbS
    by_cases hlt : k < n
    · skip
      obtain ⟨b, off, rfl, hcs⟩ := HR.out.2 (by omega)
      obtain ⟨x, hx⟩ : ∃ x, l[k]? = some x := ⟨_, List.getElem?_eq_getElem (by have := Hl.out; omega)⟩
      have hcr := range_below (B := 0) (hcs k x hx) hb
      have hc0 := hcr 0 _ rfl
      have hc1 := hcr 1 _ rfl
      have hc2 := hcr 2 _ rfl
      have hc3 := hcr 3 _ rfl
      simp only [visitE, Nat.add_zero] at hc0 hc1 hc2 hc3
      have HX := Lib.hid hx
      have HCS := Lib.hid hcs
      clear hcr hx hcs
      have hcx := range_new wr #[.int .i64 x.fDay, .string x.fWho, .int .i64 x.fKind, .int .i64 x.fAmount] 35
      have hba : Below wr.heap.size wr (wr.alloc (.cells #[.int .i64 x.fDay, .string x.fWho, .int .i64 x.fKind, .int .i64 x.fAmount] 35)) := (Below.refl _ _).alloc (Nat.le_refl _) _
      obtain ⟨W0, hW0⟩ : ∃ W0, wr.alloc (.cells #[.int .i64 x.fDay, .string x.fWho, .int .i64 x.fKind, .int .i64 x.fAmount] 35) = W0 := ⟨_, rfl⟩
      rw [hW0] at hcx hba
      have hx0 := hcx 0 _ rfl
      have hx1 := hcx 1 _ rfl
      have hx2 := hcx 2 _ rfl
      have hx3 := hcx 3 _ rfl
      simp only [Nat.zero_add] at hx0 hx1 hx2 hx3
      clear hcx
      have hb0 := hb.trans (hba.mono hb.size)
      have hgl := HGL.out.below hba
      have HT : Hid (((l.take (k + 1)).map fun x => x.fWho) = ((l.take k).map fun x => x.fWho) ++ [x.fWho]) := Lib.hid (by rw [take_of_get HX.out, List.map_append]; rfl)
      have hs0 := hb0.size
      clear HGL
      go_upto_region 5 with fail
      try rw [hW0]
      clear hW0 hc0 hc1 hc2 hc3
      go_wp2_with (at_builtin; refine wpList_pushO strE rfl _ _ 26 rfl w.heap.size 9 i0 _ 16 Tryz.underlying26 hi hz0 HZ.out.1 HZ.out.2 rfl (some ⟨g, 0, none⟩) k c' ((l.take k).map fun x => x.fWho) x.fWho rfl (hgl.alloc _) W0.heap.size rfl (range_new _ _ _) (by omega) (by decide) (by simp; omega) ?_; intro A2 c2 w4 hgl4 ht4 _)
      obtain ⟨g2, rfl⟩ := hgl4.place (by omega)
      have HG4 := Lib.hid hgl4
      have hb4 : Below w.heap.size w w4 := Below.touch (hb0.alloc hb0.size _) ht4 (fun q hq => (hgl.lt q hq).1) (by simp; omega)
      clear hgl hgl4 ht4 hb0 hb hba hx0 hx1 hx2 hx3
      go_wp2
      first | (refine ⟨⟨k + 1, g2, c2, by omega, by go_num, rfl, by rw [HT.out]; exact HG4, hb4⟩, ?_⟩; (simp [intOf]; omega)) | (go_roundw; (case rel => first | exact ⟨k + 1, g2, c2, by omega, by go_num, rfl, by rw [HT.out]; exact HG4, hb4⟩ | ((try refine ⟨trivial, ?_⟩); (repeat apply Exists.intro); exact ⟨⟨k + 1, g2, c2, by omega, by go_num, rfl, by rw [HT.out]; exact HG4, hb4⟩, rfl⟩)); (case measure => (simp [intOf]; omega)))
    · obtain rfl : n = k := by omega
      have HGF : Hid (GL strE 9 w.heap.size wr (.slice (some ⟨g, 0, none⟩) n c') (l.map fun x => x.fWho)) := Lib.hid (by
        have h := HGL.out
        rw [List.take_of_length_le (by rw [Hl.out]; exact Nat.le_refl _)] at h
        exact h)
      clear HGL
      go_wp2_with fail
      refine (i_sortedSet g n c' w.heap.size _ wr w HGF.out (by omega) hb).mono ?_
      rintro e w2 ⟨rfl, hgl2, hb2⟩
      go_wp2
      go_ret
      exact ⟨g, _, c', rfl, hgl2, hb2⟩
theorem i_CustomersOf (A : Option Addr) (n c : Nat) (l : List DVisit) (w : World) (hr : Rd visitE w A n l) (hok : OkVs l) :
    Calls Tryz.prog 6 #[.slice A n c] w fun e w' => ∃ (g m c' : Nat), e = .returned (.tuple #[.slice (some ⟨g, 0, none⟩) m c', .int .i64 0]) ∧ GL strE 9 w.heap.size w' (.slice (some ⟨g, 0, none⟩) m c') (uniqB (sortB (l.map fun x => x.fWho))) ∧ Below w.heap.size w w' := by
  have hn : n ≤ 9 := by have := hok.few; have := hr.1; omega
  have HO := Lib.hid hok
  clear hok
  go_enter Tryz.func6, Tryz.ntmps6
  go_wp2_with fail
  refine (i_ValidVisits A n c l w hr HO.out).mono ?_
  rintro e w1 ⟨rfl, hb1⟩
  go_wp2_with fail
  refine (i_customers A n c l w1 (hr.below hb1) (by omega)).mono ?_
  rintro e w2 ⟨g, m, c', rfl, hgl, hb2⟩
  go_wp2
  go_ret2
  exact ⟨g, m, c', rfl, hgl.mono hb1.size, hb1.trans (hb2.mono hb1.size)⟩
def kindAmt (q : Int) (x : DVisit) : Int := if x.fKind = q then x.fAmount else 0
def kindsOf (l : List DVisit) : List Int := [sumBy (kindAmt 1) l, sumBy (kindAmt 2) l, sumBy (kindAmt 3) l, sumBy (kindAmt 4) l]
theorem kindAmt_range {l : List DVisit} (h : ∀ x ∈ l, 0 ≤ x.fAmount ∧ x.fAmount ≤ 5900) (h9 : l.length ≤ 9) (q : Int) : 0 ≤ sumBy (kindAmt q) l ∧ sumBy (kindAmt q) l ≤ 53100 := by
  have h1 := sumBy_range (f := kindAmt q) (M := 5900) (l := l) fun x hx => by
    have := h x hx
    unfold kindAmt
    split <;> omega
  omega
theorem kinds_take {l : List DVisit} {k : Nat} {x : DVisit} (hx : l[k]? = some x) (q : Int) : sumBy (kindAmt q) (l.take (k + 1)) = sumBy (kindAmt q) (l.take k) + kindAmt q x := sumBy_take hx
theorem kinds_at (l : List DVisit) {q : Int} (h : 1 ≤ q ∧ q ≤ 4) : (kindsOf l)[(q - 1).toNat]? = some (sumBy (kindAmt q) l) := by
  have h4 : q = 1 ∨ q = 2 ∨ q = 3 ∨ q = 4 := by omega
  rcases h4 with rfl | rfl | rfl | rfl <;> rfl
theorem kinds_set {l : List DVisit} {k : Nat} {x : DVisit} (hx : l[k]? = some x) (h : 1 ≤ x.fKind ∧ x.fKind ≤ 4) : (kindsOf (l.take k)).set (x.fKind - 1).toNat (sumBy (kindAmt x.fKind) (l.take k) + x.fAmount) = kindsOf (l.take (k + 1)) := by
  unfold kindsOf
  rw [kinds_take hx, kinds_take hx, kinds_take hx, kinds_take hx]
  have h4 : x.fKind = 1 ∨ x.fKind = 2 ∨ x.fKind = 3 ∨ x.fKind = 4 := by omega
  rcases h4 with e | e | e | e <;> rw [e] <;> unfold kindAmt <;> rw [e] <;> simp
set_option maxRecDepth 100000 in
set_option maxHeartbeats 2000000 in
theorem i_ByKinds (A : Option Addr) (n c : Nat) (l : List DVisit) (w : World) (hr : Rd visitE w A n l) (hok : OkVs l) :
    Calls Tryz.prog 7 #[.slice A n c] w fun e w' => ∃ g : Nat, e = .returned (.tuple #[.slice (some ⟨g, 0, none⟩) 4 4, .int .i64 0]) ∧ GL intE 2 w.heap.size w' (.slice (some ⟨g, 0, none⟩) 4 4) (kindsOf l) ∧ Below w.heap.size w w' := by
  have hn : n ≤ 9 := by have := hok.few; have := hr.1; omega
  have HO := Lib.hid hok
  have Hl := Lib.hid hr.1
  have HR := Lib.hid hr
  clear hok hr
  go_enter Tryz.func7, Tryz.ntmps7
  go_wp2_with fail
  refine (i_ValidVisits A n c l w HR.out HO.out).mono ?_
  rintro e w1 ⟨rfl, hb1⟩
  have HB1 := Lib.hid hb1
  have HR1 := Lib.hid (HR.out.below hb1)
  clear HR hb1
  have hmk : ∀ w, (Instr.makeSlice 29 (.int .i64 4) (.int .i64 4)).run Tryz.prog w = .ok (.slice (some ⟨w.heap.size, 0, none⟩) 4 4) (w.alloc (.cells #[.int .i64 0, .int .i64 0, .int .i64 0, .int .i64 0] 2)) := fun _ => by kernel_rfl
  have hG0 : GL intE 2 w1.heap.size (w1.alloc (.cells #[.int .i64 0, .int .i64 0, .int .i64 0, .int .i64 0] 2)) (.slice (some ⟨w1.heap.size, 0, none⟩) 4 4) (kindsOf (l.take 0)) := World.ownsRow_lit (base := w1.heap.size) (e := 2) (size := 1) w1 #[.int .i64 0, .int .i64 0, .int .i64 0, .int .i64 0] 4 (Nat.le_refl _) (by unfold maxLen; omega) rfl
  have hbA : Below w1.heap.size w1 (w1.alloc (.cells #[.int .i64 0, .int .i64 0, .int .i64 0, .int .i64 0] 2)) := (Below.refl _ _).alloc (Nat.le_refl _) _
  have HG0 := Lib.hid hG0
  clear hG0
  go_wp2_with fail
  clear hmk
  go_loopw [13] (fun i wr => ∃ k : Nat, k ≤ n ∧ i = .int .i64 k ∧ GL intE 2 w1.heap.size wr (.slice (some ⟨w1.heap.size, 0, none⟩) 4 4) (kindsOf (l.take k)) ∧ Below w1.heap.size w1 wr) (fun i _ => n - (intOf i).toNat)
  case atStart => exact ⟨0, Nat.zero_le _, rfl, HG0.out, hbA⟩
  case round =>
    obtain ⟨k, hk, rfl, hgl, hb⟩ := hrel
    clear HG0 hbA
    by_cases hlt : k < n
    · skip
      obtain ⟨b, off, rfl, hcs⟩ := HR1.out.2 (by omega)
      obtain ⟨x, hx⟩ : ∃ x, l[k]? = some x := ⟨_, List.getElem?_eq_getElem (by have := Hl.out; omega)⟩
      have hcr := range_below (B := 0) (hcs k x hx) hb
      have hc0 := hcr 0 _ rfl
      have hc1 := hcr 1 _ rfl
      have hc2 := hcr 2 _ rfl
      have hc3 := hcr 3 _ rfl
      simp only [visitE, Nat.add_zero] at hc0 hc1 hc2 hc3
      have HX := Lib.hid hx
      have HCS := Lib.hid hcs
      clear hcr hx hcs
      have hcx := range_new wr #[.int .i64 x.fDay, .string x.fWho, .int .i64 x.fKind, .int .i64 x.fAmount] 35
      have hba : Below wr.heap.size wr (wr.alloc (.cells #[.int .i64 x.fDay, .string x.fWho, .int .i64 x.fKind, .int .i64 x.fAmount] 35)) := (Below.refl _ _).alloc (Nat.le_refl _) _
      obtain ⟨W0, hW0⟩ : ∃ W0, wr.alloc (.cells #[.int .i64 x.fDay, .string x.fWho, .int .i64 x.fKind, .int .i64 x.fAmount] 35) = W0 := ⟨_, rfl⟩
      rw [hW0] at hcx hba
      have hx0 := hcx 0 _ rfl
      have hx1 := hcx 1 _ rfl
      have hx2 := hcx 2 _ rfl
      have hx3 := hcx 3 _ rfl
      simp only [Nat.zero_add] at hx0 hx1 hx2 hx3
      clear hcx
      have hgl0 := hgl.below hba
      have hb0 := hb.trans (hba.mono hb.size)
      have hok := HO.out.ok x (mem_of_get HX.out)
      have hk4 := hok.k
      have hxa := HO.out.amt x (mem_of_get HX.out)
      have hsr := kindAmt_range (l := l.take k) (fun y hy => HO.out.amt y (List.mem_of_mem_take hy)) (by rw [List.length_take]; omega) x.fKind
      have hat := kinds_at (l.take k) hk4
      have HN := Lib.hid (kinds_set HX.out hk4)
      obtain ⟨S, hS⟩ : ∃ S, sumBy (kindAmt x.fKind) (l.take k) = S := ⟨_, rfl⟩
      rw [hS] at hat hsr HN
      obtain ⟨q, hq⟩ : ∃ q, (x.fKind - 1).toNat = q := ⟨_, rfl⟩
      rw [hq] at hat HN
      have hq4 : q < 4 := by omega
      have hqw : IntKind.i64.wrap (x.fKind - 1) = (q : Int) := by rw [show x.fKind - 1 = (q : Int) by omega]; exact wid (by omega)
      have hsw : IntKind.i64.wrap (S + x.fAmount) = S + x.fAmount := wid (by omega)
      have hq4i : (q : Int) < 4 := by omega
      have hq0i : (0 : Int) ≤ (q : Int) := by omega
      have hcell := hgl0.cellI hat
      have hfree := hgl0.free q
      have hglN := (hgl0.drew).setI (j := q) hq4 (S + x.fAmount)
      rw [HN.out] at hglN
      have HGN := Lib.hid hglN
      have hbN : Below w1.heap.size w1 (W0.drew.setCell ⟨w1.heap.size, q, none⟩ (.int .i64 (S + x.fAmount))) := (hb0.drew).setCell (p := ⟨w1.heap.size, q, none⟩) (Nat.le_refl _) _
      clear hS hq hat hk4 hgl hgl0 hglN hok hba hb HN
      go_upto_region 7 with fail
      try rw [hW0]
      clear hW0 hc0 hc1 hc2 hc3
      go_still_tail 10, (by kernel_rfl)
      change wpList _ _ _ _ _ W0.drew
      go_wp2
      first | (refine ⟨⟨k + 1, by omega, by go_num, HGN.out, hbN⟩, ?_⟩; (simp [intOf]; omega)) | (go_roundw; (case rel => first | exact ⟨k + 1, by omega, by go_num, HGN.out, hbN⟩ | ((try refine ⟨trivial, ?_⟩); (repeat apply Exists.intro); exact ⟨⟨k + 1, by omega, by go_num, HGN.out, hbN⟩, rfl⟩)); (case measure => (simp [intOf]; omega)))
    · obtain rfl : n = k := by omega
      have HGF : Hid (GL intE 2 w1.heap.size wr (.slice (some ⟨w1.heap.size, 0, none⟩) 4 4) (kindsOf l)) := Lib.hid (by
        rw [List.take_of_length_le (by rw [Hl.out]; exact Nat.le_refl _)] at hgl
        exact hgl)
      have hbF := HB1.out.trans (hb.mono HB1.out.size)
      clear hgl hb
      go_wp2
      go_ret2
      exact ⟨w1.heap.size, rfl, HGF.out.mono HB1.out.size, hbF⟩
set_option maxRecDepth 100000 in
set_option maxHeartbeats 2000000 in
theorem s_l22Ok (A : Option Addr) (n c : Nat) (l : List DVisit) (w : World) (hr : Rd visitE w A n l) (hok : OkVs l) :
    Calls Tryz.prog 32 #[.slice A n c] w (RetB true w) := by
  have Hl := Lib.hid hr.1
  have hn : n ≤ 9 := by have := hok.few; have := hr.1; omega
  have HO := Lib.hid hok
  have HR := Lib.hid hr
  clear hok hr
  go_enter Tryz.func32, Tryz.ntmps32
  go_wp2_with fail
  go_loopw [3] (fun i wr => ∃ k : Nat, k ≤ n ∧ i = .int .i64 k ∧ Below w.heap.size w wr) (fun i _ => n - (intOf i).toNat)
  case atStart => exact ⟨0, Nat.zero_le _, rfl, Below.refl _ _⟩
  case round =>
    obtain ⟨k, hk, rfl, hb⟩ := hrel
    by_cases hlt : k < n
    · obtain ⟨b, off, rfl, hcs⟩ := HR.out.2 (by omega)
      obtain ⟨x, hx⟩ : ∃ x, l[k]? = some x := ⟨_, List.getElem?_eq_getElem (by have := Hl.out; omega)⟩
      have hcr := range_below (B := 0) (hcs k x hx) hb
      have hc0 := hcr 0 _ rfl
      simp only [visitE, Nat.add_zero] at hc0
      have HV : Hid (∀ m, Calls Tryz.prog 46 #[.pointer (some ⟨b, off + k * 4, none⟩)] (wr.drewN m) fun e w' => e = .returned (.bool true) ∧ wr.drewN m = w') := Lib.hid fun m => s_l22One b (off + k * 4) x (wr.drewN m) (HO.out.ok x (mem_of_get hx)) hcr
      obtain hk0 | ⟨j, hk0⟩ : k = 0 ∨ ∃ j, k = j + 1 := by cases k with
        | zero => exact .inl rfl
        | succ j => exact .inr ⟨j, rfl⟩
      · subst hk0
        rw [Nat.zero_mul, Nat.add_zero] at hc0 HV
        clear hcr hcs hx
        go_wp2_with fail
        go_quiet ((go_at_call 46; exact quiet_left (HV.out _)))
        go_wp2
        first | (refine ⟨⟨1, by omega, by go_num, below_drewN hb _⟩, ?_⟩; (simp [intOf]; omega)) | (go_roundw; (case rel => first | exact ⟨1, by omega, by go_num, below_drewN hb _⟩ | ((try refine ⟨trivial, ?_⟩); (repeat apply Exists.intro); exact ⟨⟨1, by omega, by go_num, below_drewN hb _⟩, rfl⟩)); (case measure => (simp [intOf]; omega)))
      · subst hk0
        obtain ⟨p, hp⟩ : ∃ p, l[j]? = some p := ⟨_, List.getElem?_eq_getElem (by have := Hl.out; omega)⟩
        have hp0 := range_below (B := 0) (hcs j p hp) hb 0 _ rfl
        simp only [visitE, Nat.add_zero] at hp0
        have hle := HO.out.asc j p x hp hx
        have hlt2 : ¬ x.fDay < p.fDay := by omega
        have hgt : decide (x.fDay < p.fDay) = false := decide_eq_false hlt2
        have hjw : IntKind.i64.wrap (((j + 1 : Nat) : Int) - 1) = (j : Int) := by rw [show ((j + 1 : Nat) : Int) - 1 = (j : Int) by omega]; exact wid (by omega)
        clear hcr hcs hx hp hle
        go_wp2_with fail
        go_quiet ((go_at_call 46; exact quiet_left (HV.out _)))
        go_wp2
        first | (refine ⟨⟨j + 2, by omega, by go_num, below_drewN hb _⟩, ?_⟩; (simp [intOf]; omega)) | (go_roundw; (case rel => first | exact ⟨j + 2, by omega, by go_num, below_drewN hb _⟩ | ((try refine ⟨trivial, ?_⟩); (repeat apply Exists.intro); exact ⟨⟨j + 2, by omega, by go_num, below_drewN hb _⟩, rfl⟩)); (case measure => (simp [intOf]; omega)))
    · have hf : decide ((n : Int) ≤ 32) = true := decide_eq_true (by omega)
      go_wp2
      go_ret
      exact ⟨ret_bool (by first | exact hf | (simp; done) | (simp; omega)), hb⟩
set_option maxRecDepth 100000 in
set_option maxHeartbeats 2000000 in
theorem s_l22Spent (A : Option Addr) (n c : Nat) (l : List DVisit) (s : ByteArray) (w : World) (hr : Rd visitE w A n l) (hok : OkVs l) :
    Calls Tryz.prog 33 #[.slice A n c, .string s] w fun e w' => e = .returned (.int .i64 (spB l s)) ∧ w = w' := by
  have Hl := Lib.hid hr.1
  have hn : n ≤ 9 := by have := hok.few; have := hr.1; omega
  have HO := Lib.hid hok
  clear hok
  go_enter Tryz.func33, Tryz.ntmps33
  go_wp2_with fail
  go_loop [5, 6] (fun v i => ∃ k : Nat, k ≤ n ∧ i = .int .i64 k ∧ v = .int .i64 (spB (l.take k) s)) (fun _ i => n - (intOf i).toNat)
  case atStart => exact ⟨0, Nat.zero_le _, rfl, rfl⟩
  case round =>
    obtain ⟨k, hk, rfl, rfl⟩ := hrel
    have hlo : 0 ≤ spB (l.take k) s ∧ spB (l.take k) s ≤ 53100 := by
      have h1 := spent_range (f := fun x : DVisit => x.fWho) (g := fun x : DVisit => x.fAmount) (M := 5900) (l := l.take k) (fun x hx => HO.out.amt x (List.mem_of_mem_take hx)) s
      rw [List.length_take] at h1
      unfold spB
      omega
    by_cases hlt : k < n
    · obtain ⟨b, off, x, rfl, hx, hc⟩ := hr.get hlt
      have hc1 := hc 1 _ rfl
      have hc3 := hc 3 _ rfl
      simp only [visitE, Nat.add_zero] at hc1 hc3
      have hxa := HO.out.amt x (mem_of_get hx)
      have HS : Hid (spB (l.take (k + 1)) s = spB (l.take k) s + if x.fWho = s then x.fAmount else 0) := Lib.hid (sumBy_take (f := fun x : DVisit => if x.fWho = s then x.fAmount else 0) hx)
      obtain ⟨S, hS⟩ : ∃ S, spB (l.take k) s = S := ⟨_, rfl⟩
      rw [hS] at hlo HS ⊢
      clear hS hx hc
      rcases hw : isWho s x with _ | _
      · have hne : ¬ x.fWho = s := fun e => by rw [isWho_iff.2 e] at hw; cases hw
        have HS2 : Hid (spB (l.take (k + 1)) s = S) := Lib.hid (by rw [HS.out, if_neg hne, Int.add_zero])
        have h1 : (x.fWho.toList == s.toList) = false := hw
        have h2 : ¬ x.fWho.toList = s.toList := by rwa [beq_eq_false_iff_ne] at h1
        clear hw hne HS
        go_wp2
        first | (refine ⟨⟨k + 1, by omega, by go_num, by rw [HS2.out]⟩, ?_⟩; (simp [intOf]; omega)) | (go_round; (case rel => first | exact ⟨k + 1, by omega, by go_num, by rw [HS2.out]⟩ | ((try refine ⟨trivial, ?_⟩); (repeat apply Exists.intro); exact ⟨⟨k + 1, by omega, by go_num, by rw [HS2.out]⟩, rfl⟩)); (case measure => (simp [intOf]; omega)))
      · have he := isWho_iff.1 hw
        have HS2 : Hid (spB (l.take (k + 1)) s = S + x.fAmount) := Lib.hid (by rw [HS.out, if_pos he])
        have h1 : (x.fWho.toList == s.toList) = true := hw
        have h2 : x.fWho.toList = s.toList := eq_of_beq h1
        clear hw he HS
        go_wp2
        first | (refine ⟨⟨k + 1, by omega, by go_num, by rw [HS2.out]⟩, ?_⟩; (simp [intOf]; omega)) | (go_round; (case rel => first | exact ⟨k + 1, by omega, by go_num, by rw [HS2.out]⟩ | ((try refine ⟨trivial, ?_⟩); (repeat apply Exists.intro); exact ⟨⟨k + 1, by omega, by go_num, by rw [HS2.out]⟩, rfl⟩)); (case measure => (simp [intOf]; omega)))
    · obtain rfl : n = k := by omega
      have E : spB (l.take n) s = spB l s := by rw [List.take_of_length_le (by rw [Hl.out]; exact Nat.le_refl _)]
      rw [E]
      clear E hlo
      go_wp2
      go_ret
      exact ⟨rfl, rfl⟩
theorem s_SpentBy (A : Option Addr) (n c : Nat) (l : List DVisit) (s : ByteArray) (w : World) (hr : Rd visitE w A n l) (hok : OkVs l) :
    Calls Tryz.prog 16 #[.slice A n c, .string s] w fun e w' => e = .returned (.tuple #[.int .i64 (spB l s), .int .i64 0]) ∧ Below w.heap.size w w' := by
  have HO := Lib.hid hok
  clear hok
  go_enter Tryz.func16, Tryz.ntmps16
  go_wp2_with fail
  refine (s_l22Ok A n c l w hr HO.out).mono ?_
  rintro e w1 ⟨rfl, hb1⟩
  go_wp2_with fail
  refine (s_l22Spent A n c l s w1 (hr.below hb1) HO.out).mono ?_
  rintro e w2 ⟨rfl, rfl⟩
  go_wp2
  go_ret2
  exact ⟨rfl, hb1⟩
end Go.Proofs.YtbgmhlbcohdobaaGreatDoor
