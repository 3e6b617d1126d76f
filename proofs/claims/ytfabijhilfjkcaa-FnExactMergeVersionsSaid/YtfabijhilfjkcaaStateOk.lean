/- Which lists of settings are a state: both sides. Printed by a program of mine. -/
import Derived.Test.YtfabijhilfjkcaaRows
import Derived.Test.YtfabijhilfjkcaaCSetting
import Derived.Test.YtfabijhilfjkcaaNames
import Derived.Test.YtfabijhilfjkcaaOrd
namespace Go.Proofs.Ytfabijhilfjkcaa
set_option linter.unusedVariables false
set_option linter.unusedSimpArgs false
set_option linter.unusedSectionVars false
open Go.RowKit

def okSett (x : DSetting) : Bool := nameB x.fName && inB x.fValue 0 1000

set_option maxHeartbeats 1000000 in
theorem s_l27Setting (b off : Nat) (x : DSetting) (w : World) (hg : x.fName.size ≤ maxLen) (hc : w.rangeAt b off (settingE.cells x)) :
    Calls Try.prog 54 #[.pointer (some ⟨b, off, none⟩)] w fun e w' => e = .returned (.bool (okSett x)) ∧ w = w' := by
  have hc0 := hc 0 _ rfl
  have hc1 := hc 1 _ rfl
  rw [Nat.add_zero] at hc0
  clear hc
  go_enter Try.func54, Try.ntmps54
  go_wp2_with fail
  refine (s_l01Name x.fName _ hg).mono ?_
  rintro e w' ⟨rfl, rfl⟩
  rcases h0 : nameB x.fName with _ | _
  · have E : Hid (okSett x = false) := Lib.hid (by unfold okSett; rw [h0]; rfl)
    clear h0
    go_wp2
    go_ret
    exact ⟨ret_bool E.out.symm, rfl⟩
  · have H0 := Lib.hid h0; clear h0
    go_wp2_with fail
    refine (s_l00In _ _ _ _).mono ?_
    rintro e w' ⟨rfl, rfl⟩
    go_wp2
    go_ret
    exact ⟨ret_bool (by unfold okSett; rw [H0.out]; rfl), rfl⟩

set_option maxHeartbeats 1000000 in
theorem i_validSetting (x : DSetting) (w : World) (hg : x.fName.size ≤ maxLen) :
    Calls Try.prog 58 #[.agg #[.string x.fName, .int .i64 x.fValue]] w (RetB (okSett x) w) := by
  go_enter Try.func58, Try.ntmps58
  go_wp2_with fail
  refine (i_IsName x.fName _ hg).mono ?_
  rintro e w' ⟨rfl, rfl⟩
  rcases h0 : nameB x.fName with _ | _
  · have E : Hid (okSett x = false) := Lib.hid (by unfold okSett; rw [h0]; rfl)
    clear h0
    go_wp2
    go_ret
    exact ⟨ret_bool E.out.symm, by (repeat (first | exact Below.refl _ _ | assumption | refine Below.drew ?_ | refine Below.alloc ?_ (by first | omega | (simp; done) | (simp; omega) | exact Below.size (by assumption)) _ | refine Below.setCell ?_ (by first | omega | (simp; done) | (simp; omega)) _))⟩
  · have H0 := Lib.hid h0; clear h0
    go_wp2_with fail
    refine (i_within _ _ _ _).mono ?_
    rintro e w' ⟨rfl, rfl⟩
    go_wp2
    go_ret
    exact ⟨ret_bool (by unfold okSett; rw [H0.out]; rfl), by (repeat (first | exact Below.refl _ _ | assumption | refine Below.drew ?_ | refine Below.alloc ?_ (by first | omega | (simp; done) | (simp; omega) | exact Below.size (by assumption)) _ | refine Below.setCell ?_ (by first | omega | (simp; done) | (simp; omega)) _))⟩

def stB (l : List DSetting) : Bool := chainB okSett (fun x y => Op.bytesLess x.fName.toList y.fName.toList) none l && decide ((l.length : Int) ≤ 24)
theorem st_mem {l : List DSetting} (h : stB l = true) : (∀ x ∈ l, okSett x = true) ∧ l.length ≤ 24 := by
  unfold stB at h
  rw [Bool.and_eq_true, decide_eq_true_eq] at h
  have chain : ∀ {l : List DSetting} {o : Option DSetting}, chainB okSett (fun x y => Op.bytesLess x.fName.toList y.fName.toList) o l = true → ∀ x ∈ l, okSett x = true := by
    intro l
    induction l with
    | nil => intro o _ x hx; cases hx
    | cons y t ih =>
      intro o h x hx
      have h2 : okSett y = true ∧ chainB okSett (fun x y => Op.bytesLess x.fName.toList y.fName.toList) (some y) t = true := by
        cases o with
        | none => simpa [chainB, Bool.and_eq_true] using h
        | some z => simp only [chainB, Bool.and_eq_true] at h; exact ⟨h.1, h.2.2⟩
      rcases List.mem_cons.1 hx with rfl | hx
      · exact h2.1
      · exact ih h2.2 x hx
  exact ⟨chain h.1, by omega⟩

def SC (l : List DSetting) (k : Nat) : Prop := chainB okSett (fun x y => Op.bytesLess x.fName.toList y.fName.toList) none l = chainB okSett (fun x y => Op.bytesLess x.fName.toList y.fName.toList) (prevOf l k) (l.drop k)
theorem sc_zero (l : List DSetting) : SC l 0 := rfl
theorem sc_bad {l : List DSetting} {k : Nat} {x : DSetting} (h : SC l k) (hx : l[k]? = some x) (hb : okSett x = false) : stB l = false := by
  unfold SC at h
  unfold stB
  rw [h]
  rcases k with _ | j
  · rw [chain_first hx, hb, Bool.false_and, Bool.false_and]
  · obtain ⟨p, hp⟩ : ∃ p, l[j]? = some p := ⟨_, List.getElem?_eq_getElem (by have := (List.getElem?_eq_some_iff.1 hx).1; omega)⟩
    rw [chain_next hp hx, hb, Bool.false_and, Bool.false_and]
theorem sc_first {l : List DSetting} {x : DSetting} (h : SC l 0) (hx : l[0]? = some x) (hb : okSett x = true) : SC l 1 := by
  unfold SC at h ⊢
  rw [h, chain_first hx, hb, Bool.true_and]
theorem sc_badlt {l : List DSetting} {j : Nat} {p x : DSetting} (h : SC l (j + 1)) (hp : l[j]? = some p) (hx : l[j + 1]? = some x) (hlt : Op.bytesLess p.fName.toList x.fName.toList = false) : stB l = false := by
  unfold SC at h
  unfold stB
  rw [h, chain_next hp hx, hlt, Bool.false_and, Bool.and_false, Bool.false_and]
theorem sc_next {l : List DSetting} {j : Nat} {p x : DSetting} (h : SC l (j + 1)) (hp : l[j]? = some p) (hx : l[j + 1]? = some x) (hb : okSett x = true) (hlt : Op.bytesLess p.fName.toList x.fName.toList = true) : SC l (j + 2) := by
  unfold SC at h ⊢
  rw [h, chain_next hp hx, hb, hlt, Bool.true_and, Bool.true_and]
theorem sc_end {l : List DSetting} {n : Nat} (h : SC l n) (hl : l.length = n) : stB l = decide ((n : Int) ≤ 24) := by
  unfold SC at h
  unfold stB
  rw [h, List.drop_of_length_le (by omega), hl]
  cases prevOf l n <;> simp [chainB]

set_option maxRecDepth 100000 in
set_option maxHeartbeats 2000000 in
theorem s_l27State (A : Option Addr) (n c : Nat) (l : List DSetting) (w : World) (hr : Rd settingE w A n l) (hn : n ≤ maxLen) (hg : ∀ x ∈ l, x.good) :
    Calls Try.prog 33 #[.slice A n c] w (RetB (stB l) w) := by
  unfold maxLen at hn
  have Hl := Lib.hid hr.1
  have HG := Lib.hid hg; clear hg
  go_enter Try.func33, Try.ntmps33
  go_wp2_with fail
  go_loopw [3] (fun i wr => ∃ k : Nat, k ≤ n ∧ i = .int .i64 k ∧ Below w.heap.size w wr ∧ Hid (SC l k)) (fun i _ => n - (intOf i).toNat)
  case atStart => exact ⟨0, Nat.zero_le _, rfl, Below.refl _ _, Lib.hid (sc_zero l)⟩
  case round =>
    obtain ⟨k, hk, rfl, hb, HH⟩ := hrel
    by_cases hlt : k < n
    · obtain ⟨b, off, rfl, hcs⟩ := hr.2 (by omega)
      obtain ⟨x, hx⟩ : ∃ x, l[k]? = some x := ⟨_, List.getElem?_eq_getElem (by have := Hl.out; omega)⟩
      have HXR := Lib.hid (range_below (B := 0) (hcs k x hx) hb)
      have hx0 := HXR.out 0 _ rfl
      simp only [settingE, Nat.add_zero] at hx0
      have hgx := HG.out x (List.mem_of_getElem? hx)
      have HGx := Lib.hid hgx
      have C0 : ∀ W, Calls Try.prog 54 #[.pointer (some ⟨b, off + k * 2, none⟩)] (wr.drewN W) fun e w' => e = .returned (.bool (okSett x)) ∧ wr.drewN W = w' := fun W => s_l27Setting b (off + k * 2) x (wr.drewN W) HGx.out.1 HXR.out
      rcases hbx : okSett x with _ | _
      · have HB := Lib.hid hbx
        rw [hbx] at C0
        clear hbx
        have E : Hid (stB l = false) := Lib.hid (sc_bad HH.out hx HB.out)
        clear hx hcs
        go_wp2_with fail
        go_quiet (first | (go_at_call 54; with_reducible exact quiet_left (C0 _)))
        go_wp2
        go_ret
        exact ⟨ret_bool E.out.symm, below_drewN hb _⟩
      · have HB := Lib.hid hbx
        rw [hbx] at C0
        clear hbx
        obtain hk0 | ⟨j, hk0⟩ : k = 0 ∨ ∃ j, k = j + 1 := by cases k with
          | zero => exact .inl rfl
          | succ j => exact .inr ⟨j, rfl⟩
        · subst hk0
          have HC := Lib.hid (sc_first HH.out hx HB.out)
          simp only [Nat.zero_mul, Nat.add_zero] at C0 hx0
          clear hx hcs HH
          go_wp2_with fail
          go_quiet (first | (go_at_call 54; with_reducible exact quiet_left (C0 _)))
          go_wp2
          first | (refine ⟨⟨1, by omega, by go_num, below_drewN hb _, HC⟩, ?_⟩; (simp [intOf]; omega)) | (go_roundw; (case rel => first | exact ⟨1, by omega, by go_num, below_drewN hb _, HC⟩ | ((try refine ⟨trivial, ?_⟩); (repeat apply Exists.intro); exact ⟨⟨1, by omega, by go_num, below_drewN hb _, HC⟩, rfl⟩)); (case measure => (simp [intOf]; omega)))
        · subst hk0
          obtain ⟨p, hp⟩ : ∃ p, l[j]? = some p := ⟨_, List.getElem?_eq_getElem (by have := Hl.out; omega)⟩
          have hp0 := range_below (B := 0) (hcs j p hp) hb 0 _ rfl
          simp only [settingE, Nat.add_zero] at hp0
          rcases hlt' : Op.bytesLess p.fName.toList x.fName.toList with _ | _
          · have E : Hid (stB l = false) := Lib.hid (sc_badlt HH.out hp hx hlt')
            clear hx hcs HH hp
            go_wp2_with fail
            go_quiet (first | (go_at_call 54; with_reducible exact quiet_left (C0 _)))
            go_wp2
            go_ret
            exact ⟨ret_bool E.out.symm, below_drewN hb _⟩
          · have HC' := Lib.hid (sc_next HH.out hp hx HB.out hlt')
            clear hx hcs HH hp
            go_wp2_with fail
            go_quiet (first | (go_at_call 54; with_reducible exact quiet_left (C0 _)))
            go_wp2
            first | (refine ⟨⟨j + 2, by omega, by go_num, below_drewN hb _, HC'⟩, ?_⟩; (simp [intOf]; omega)) | (go_roundw; (case rel => first | exact ⟨j + 2, by omega, by go_num, below_drewN hb _, HC'⟩ | ((try refine ⟨trivial, ?_⟩); (repeat apply Exists.intro); exact ⟨⟨j + 2, by omega, by go_num, below_drewN hb _, HC'⟩, rfl⟩)); (case measure => (simp [intOf]; omega)))
    · have HN : Hid (SC l n) := Lib.hid ((show k = n from by omega) ▸ HH.out)
      have E : Hid (stB l = decide ((n : Int) ≤ 24)) := Lib.hid (sc_end HN.out Hl.out)
      go_wp2
      go_ret
      exact ⟨ret_bool E.out.symm, hb⟩

set_option maxRecDepth 100000 in
set_option maxHeartbeats 4000000 in
theorem i_ValidState (A : Option Addr) (n c : Nat) (l : List DSetting) (w : World) (hr : Rd settingE w A n l) (hn : n ≤ maxLen) (hg : ∀ x ∈ l, x.good) :
    Calls Try.prog 42 #[.slice A n c] w (RetB (stB l) w) := by
  unfold maxLen at hn
  have Hl := Lib.hid hr.1
  have HG := Lib.hid hg; clear hg
  go_enter Try.func42, Try.ntmps42
  go_wp2_with fail
  go_loopw [7] (fun i wr => ∃ k : Nat, k ≤ n ∧ i = .int .i64 k ∧ Below w.heap.size w wr ∧ Hid (SC l k)) (fun i _ => n - (intOf i).toNat)
  case atStart => exact ⟨0, Nat.zero_le _, rfl, Below.refl _ _, Lib.hid (sc_zero l)⟩
  case round =>
    obtain ⟨k, hk, rfl, hb, HH⟩ := hrel
    by_cases hlt : k < n
    · obtain ⟨b, off, rfl, hcs⟩ := hr.2 (by omega)
      obtain ⟨x, hx⟩ : ∃ x, l[k]? = some x := ⟨_, List.getElem?_eq_getElem (by have := Hl.out; omega)⟩
      have hcr := range_below (B := 0) (hcs k x hx) hb
      have hc0 := hcr 0 _ rfl
      have hc1 := hcr 1 _ rfl
      simp only [settingE, Nat.add_zero] at hc0 hc1
      clear hcr
      have HGx := Lib.hid (HG.out x (mem_of_get hx))
      have HV : Hid (∀ W, Calls Try.prog 58 #[.agg #[.string x.fName, .int .i64 x.fValue]] W (RetB (okSett x) W)) := Lib.hid (fun W => i_validSetting x W HGx.out.1)
      rcases hbx : okSett x with _ | _
      · have HB := Lib.hid hbx
        rw [hbx] at HV
        clear hbx
        have E : Hid (stB l = false) := Lib.hid (sc_bad HH.out hx HB.out)
        clear hx hcs
        have hcx := range_new wr #[.string x.fName, .int .i64 x.fValue] 56
        have hb0 : Below w.heap.size w (wr.alloc (.cells #[.string x.fName, .int .i64 x.fValue] 56)) := hb.alloc hb.size _
        have hba : Below wr.heap.size wr (wr.alloc (.cells #[.string x.fName, .int .i64 x.fValue] 56)) := (Below.refl _ _).alloc (Nat.le_refl _) _
        obtain ⟨W0, hW0⟩ : ∃ W0, wr.alloc (.cells #[.string x.fName, .int .i64 x.fValue] 56) = W0 := ⟨_, rfl⟩
        go_wp2_with fail
        rw [hW0] at hcx hb0 hba
        have hx0 := hcx 0 _ rfl
        have hx1 := hcx 1 _ rfl
        simp only [Nat.zero_add] at hx0 hx1
        clear hW0 hcx hc0 hc1
        let S : World → Prop := fun w' => w'.cell? ⟨wr.heap.size, 0, none⟩ = some (.string x.fName) ∧ w'.cell? ⟨wr.heap.size, 1, none⟩ = some (.int .i64 x.fValue) ∧ Below w.heap.size w w'
        have hS : S (World.drew W0) := ⟨hx0, hx1, (hb0).drew⟩
        have hne : Nonempty (Wd S) := ⟨⟨_, hS⟩⟩
        have qc0 : ∀ t : Wd S, t.w.cell? ⟨wr.heap.size, 0, none⟩ = some (.string x.fName) := fun t => t.h.1
        have qc1 : ∀ t : Wd S, t.w.cell? ⟨wr.heap.size, 1, none⟩ = some (.int .i64 x.fValue) := fun t => t.h.2.1
        have Q9 : Hid (∀ (t : Wd S) (w' : World), Below t.w.heap.size t.w w' → S w') := Lib.hid (fun t w' h => ⟨cell_later h t.h.1, cell_later h t.h.2.1, t.h.2.2.trans (h.mono t.h.2.2.size)⟩)
        have QE : Hid (∀ w', S w' → w'.cell? ⟨wr.heap.size, 0, none⟩ = some (.string x.fName) ∧ w'.cell? ⟨wr.heap.size, 1, none⟩ = some (.int .i64 x.fValue) ∧ Below w.heap.size w w') := Lib.hid (fun w' h => h)
        refine wp_region_class S (by kernel_rfl) (by kernel_rfl) hS ?_
        clear_value S
        repeat (go_big_quiet_step ((first | (go_at_call 58; exact class_call _ (HV.out _) (fun e w' h => ⟨h.1, Q9.out _ _ h.2⟩)))))
        refine wpQuiet_nil ?_
        rintro _ ⟨⟨w1, hw1⟩, rfl⟩
        have hE := QE.out _ hw1
        have hb2 := hE.2.2
        clear hE
        try dsimp only
        clear hw1 hS hne Q9 QE qc0 qc1
        go_wp2
        go_ret
        exact ⟨ret_bool E.out.symm, hb2⟩
      · have HB := Lib.hid hbx
        rw [hbx] at HV
        clear hbx
        obtain hk0 | ⟨j, hk0⟩ : k = 0 ∨ ∃ j, k = j + 1 := by cases k with
          | zero => exact .inl rfl
          | succ j => exact .inr ⟨j, rfl⟩
        · subst hk0
          rw [Nat.zero_mul, Nat.add_zero] at hc0 hc1
          have HC := Lib.hid (sc_first HH.out hx HB.out)
          clear hx hcs HH
          have hcx := range_new wr #[.string x.fName, .int .i64 x.fValue] 56
          have hb0 : Below w.heap.size w (wr.alloc (.cells #[.string x.fName, .int .i64 x.fValue] 56)) := hb.alloc hb.size _
          have hba : Below wr.heap.size wr (wr.alloc (.cells #[.string x.fName, .int .i64 x.fValue] 56)) := (Below.refl _ _).alloc (Nat.le_refl _) _
          obtain ⟨W0, hW0⟩ : ∃ W0, wr.alloc (.cells #[.string x.fName, .int .i64 x.fValue] 56) = W0 := ⟨_, rfl⟩
          go_wp2_with fail
          rw [hW0] at hcx hb0 hba
          have hx0 := hcx 0 _ rfl
          have hx1 := hcx 1 _ rfl
          simp only [Nat.zero_add] at hx0 hx1
          clear hW0 hcx hc0 hc1
          let S : World → Prop := fun w' => w'.cell? ⟨wr.heap.size, 0, none⟩ = some (.string x.fName) ∧ w'.cell? ⟨wr.heap.size, 1, none⟩ = some (.int .i64 x.fValue) ∧ Below w.heap.size w w'
          have hS : S (World.drew W0) := ⟨hx0, hx1, (hb0).drew⟩
          have hne : Nonempty (Wd S) := ⟨⟨_, hS⟩⟩
          have qc0 : ∀ t : Wd S, t.w.cell? ⟨wr.heap.size, 0, none⟩ = some (.string x.fName) := fun t => t.h.1
          have qc1 : ∀ t : Wd S, t.w.cell? ⟨wr.heap.size, 1, none⟩ = some (.int .i64 x.fValue) := fun t => t.h.2.1
          have Q9 : Hid (∀ (t : Wd S) (w' : World), Below t.w.heap.size t.w w' → S w') := Lib.hid (fun t w' h => ⟨cell_later h t.h.1, cell_later h t.h.2.1, t.h.2.2.trans (h.mono t.h.2.2.size)⟩)
          have QE : Hid (∀ w', S w' → w'.cell? ⟨wr.heap.size, 0, none⟩ = some (.string x.fName) ∧ w'.cell? ⟨wr.heap.size, 1, none⟩ = some (.int .i64 x.fValue) ∧ Below w.heap.size w w') := Lib.hid (fun w' h => h)
          refine wp_region_class S (by kernel_rfl) (by kernel_rfl) hS ?_
          clear_value S
          repeat (go_big_quiet_step ((first | (go_at_call 58; exact class_call _ (HV.out _) (fun e w' h => ⟨h.1, Q9.out _ _ h.2⟩)))))
          refine wpQuiet_nil ?_
          rintro _ ⟨⟨w1, hw1⟩, rfl⟩
          have hE := QE.out _ hw1
          have hb2 := hE.2.2
          clear hE
          try dsimp only
          clear hw1 hS hne Q9 QE qc0 qc1
          go_wp2
          first | (refine ⟨⟨1, by omega, by go_num, hb2, HC⟩, ?_⟩; (simp [intOf]; omega)) | (go_roundw; (case rel => first | exact ⟨1, by omega, by go_num, hb2, HC⟩ | ((try refine ⟨trivial, ?_⟩); (repeat apply Exists.intro); exact ⟨⟨1, by omega, by go_num, hb2, HC⟩, rfl⟩)); (case measure => (simp [intOf]; omega)))
        · subst hk0
          obtain ⟨p, hp⟩ : ∃ p, l[j]? = some p := ⟨_, List.getElem?_eq_getElem (by have := Hl.out; omega)⟩
          have HP := Lib.hid (range_below (B := 0) (hcs j p hp) hb)
          rcases hlt' : Op.bytesLess p.fName.toList x.fName.toList with _ | _
          · have E : Hid (stB l = false) := Lib.hid (sc_badlt HH.out hp hx hlt')
            clear hx hcs HH hp
            have hcx := range_new wr #[.string x.fName, .int .i64 x.fValue] 56
            have hb0 : Below w.heap.size w (wr.alloc (.cells #[.string x.fName, .int .i64 x.fValue] 56)) := hb.alloc hb.size _
            have hba : Below wr.heap.size wr (wr.alloc (.cells #[.string x.fName, .int .i64 x.fValue] 56)) := (Below.refl _ _).alloc (Nat.le_refl _) _
            obtain ⟨W0, hW0⟩ : ∃ W0, wr.alloc (.cells #[.string x.fName, .int .i64 x.fValue] 56) = W0 := ⟨_, rfl⟩
            go_wp2_with fail
            rw [hW0] at hcx hb0 hba
            have hx0 := hcx 0 _ rfl
            have hx1 := hcx 1 _ rfl
            simp only [Nat.zero_add] at hx0 hx1
            clear hW0 hcx hc0 hc1
            have hp0 := range_below (B := 0) HP.out hba 0 _ rfl
            simp only [settingE, Nat.add_zero] at hp0
            let S : World → Prop := fun w' => w'.cell? ⟨wr.heap.size, 0, none⟩ = some (.string x.fName) ∧ w'.cell? ⟨wr.heap.size, 1, none⟩ = some (.int .i64 x.fValue) ∧ w'.cell? ⟨b, off + j * 2, none⟩ = some (.string p.fName) ∧ Below w.heap.size w w'
            have hS : S (World.drew W0) := ⟨hx0, hx1, hp0, (hb0).drew⟩
            have hne : Nonempty (Wd S) := ⟨⟨_, hS⟩⟩
            have qc0 : ∀ t : Wd S, t.w.cell? ⟨wr.heap.size, 0, none⟩ = some (.string x.fName) := fun t => t.h.1
            have qc1 : ∀ t : Wd S, t.w.cell? ⟨wr.heap.size, 1, none⟩ = some (.int .i64 x.fValue) := fun t => t.h.2.1
            have qc2 : ∀ t : Wd S, t.w.cell? ⟨b, off + j * 2, none⟩ = some (.string p.fName) := fun t => t.h.2.2.1
            have Q9 : Hid (∀ (t : Wd S) (w' : World), Below t.w.heap.size t.w w' → S w') := Lib.hid (fun t w' h => ⟨cell_later h t.h.1, cell_later h t.h.2.1, cell_later h t.h.2.2.1, t.h.2.2.2.trans (h.mono t.h.2.2.2.size)⟩)
            have QE : Hid (∀ w', S w' → w'.cell? ⟨wr.heap.size, 0, none⟩ = some (.string x.fName) ∧ w'.cell? ⟨wr.heap.size, 1, none⟩ = some (.int .i64 x.fValue) ∧ w'.cell? ⟨b, off + j * 2, none⟩ = some (.string p.fName) ∧ Below w.heap.size w w') := Lib.hid (fun w' h => h)
            refine wp_region_class S (by kernel_rfl) (by kernel_rfl) hS ?_
            clear_value S
            repeat (go_big_quiet_step ((first | (go_at_call 58; exact class_call _ (HV.out _) (fun e w' h => ⟨h.1, Q9.out _ _ h.2⟩)))))
            refine wpQuiet_nil ?_
            rintro _ ⟨⟨w1, hw1⟩, rfl⟩
            have hE := QE.out _ hw1
            have hb2 := hE.2.2.2
            clear hE
            try dsimp only
            clear hw1 hS hne Q9 QE qc0 qc1 qc2
            go_wp2
            go_ret
            exact ⟨ret_bool E.out.symm, hb2⟩
          · have HC' := Lib.hid (sc_next HH.out hp hx HB.out hlt')
            clear hx hcs HH hp
            have hcx := range_new wr #[.string x.fName, .int .i64 x.fValue] 56
            have hb0 : Below w.heap.size w (wr.alloc (.cells #[.string x.fName, .int .i64 x.fValue] 56)) := hb.alloc hb.size _
            have hba : Below wr.heap.size wr (wr.alloc (.cells #[.string x.fName, .int .i64 x.fValue] 56)) := (Below.refl _ _).alloc (Nat.le_refl _) _
            obtain ⟨W0, hW0⟩ : ∃ W0, wr.alloc (.cells #[.string x.fName, .int .i64 x.fValue] 56) = W0 := ⟨_, rfl⟩
            go_wp2_with fail
            rw [hW0] at hcx hb0 hba
            have hx0 := hcx 0 _ rfl
            have hx1 := hcx 1 _ rfl
            simp only [Nat.zero_add] at hx0 hx1
            clear hW0 hcx hc0 hc1
            have hp0 := range_below (B := 0) HP.out hba 0 _ rfl
            simp only [settingE, Nat.add_zero] at hp0
            let S : World → Prop := fun w' => w'.cell? ⟨wr.heap.size, 0, none⟩ = some (.string x.fName) ∧ w'.cell? ⟨wr.heap.size, 1, none⟩ = some (.int .i64 x.fValue) ∧ w'.cell? ⟨b, off + j * 2, none⟩ = some (.string p.fName) ∧ Below w.heap.size w w'
            have hS : S (World.drew W0) := ⟨hx0, hx1, hp0, (hb0).drew⟩
            have hne : Nonempty (Wd S) := ⟨⟨_, hS⟩⟩
            have qc0 : ∀ t : Wd S, t.w.cell? ⟨wr.heap.size, 0, none⟩ = some (.string x.fName) := fun t => t.h.1
            have qc1 : ∀ t : Wd S, t.w.cell? ⟨wr.heap.size, 1, none⟩ = some (.int .i64 x.fValue) := fun t => t.h.2.1
            have qc2 : ∀ t : Wd S, t.w.cell? ⟨b, off + j * 2, none⟩ = some (.string p.fName) := fun t => t.h.2.2.1
            have Q9 : Hid (∀ (t : Wd S) (w' : World), Below t.w.heap.size t.w w' → S w') := Lib.hid (fun t w' h => ⟨cell_later h t.h.1, cell_later h t.h.2.1, cell_later h t.h.2.2.1, t.h.2.2.2.trans (h.mono t.h.2.2.2.size)⟩)
            have QE : Hid (∀ w', S w' → w'.cell? ⟨wr.heap.size, 0, none⟩ = some (.string x.fName) ∧ w'.cell? ⟨wr.heap.size, 1, none⟩ = some (.int .i64 x.fValue) ∧ w'.cell? ⟨b, off + j * 2, none⟩ = some (.string p.fName) ∧ Below w.heap.size w w') := Lib.hid (fun w' h => h)
            refine wp_region_class S (by kernel_rfl) (by kernel_rfl) hS ?_
            clear_value S
            repeat (go_big_quiet_step ((first | (go_at_call 58; exact class_call _ (HV.out _) (fun e w' h => ⟨h.1, Q9.out _ _ h.2⟩)))))
            refine wpQuiet_nil ?_
            rintro _ ⟨⟨w1, hw1⟩, rfl⟩
            have hE := QE.out _ hw1
            have hb2 := hE.2.2.2
            clear hE
            try dsimp only
            clear hw1 hS hne Q9 QE qc0 qc1 qc2
            go_wp2
            first | (refine ⟨⟨j + 2, by omega, by go_num, hb2, HC'⟩, ?_⟩; (simp [intOf]; omega)) | (go_roundw; (case rel => first | exact ⟨j + 2, by omega, by go_num, hb2, HC'⟩ | ((try refine ⟨trivial, ?_⟩); (repeat apply Exists.intro); exact ⟨⟨j + 2, by omega, by go_num, hb2, HC'⟩, rfl⟩)); (case measure => (simp [intOf]; omega)))
    · have HN : Hid (SC l n) := Lib.hid ((show k = n from by omega) ▸ HH.out)
      have E : Hid (stB l = decide ((n : Int) ≤ 24)) := Lib.hid (sc_end HN.out Hl.out)
      go_wp2_with fail
      refine (i_few _ _ _ (by omega) (by omega)).mono ?_
      rintro e w' ⟨rfl, rfl⟩
      go_wp2
      go_ret
      exact ⟨ret_bool E.out.symm, hb⟩

def mchB (c : UInt8) : Bool := inB (c.toNat : Int) 32 126
def mchsB (l : List UInt8) : Bool := l.all mchB
def memoB (s : ByteArray) : Bool := mchsB s.data.toList && decide ((s.size : Int) ≤ 20)
theorem mchsB_cons (c : UInt8) (r : List UInt8) : mchsB (c :: r) = (mchB c && mchsB r) := rfl
theorem mbyte_wrap (c : UInt8) : wrap64 (c.toNat : Int) = c.toNat := IntWalk.wrap64_in _ (by have := c.toNat_lt; omega)
theorem mget_byte (s : ByteArray) (k : Nat) (h : k < s.size) : s.data.toList[k]? = some s[k] := by
  rw [List.getElem?_eq_getElem (by simpa using h)]; rfl

set_option maxHeartbeats 400000 in
theorem i_isMemo (s : ByteArray) (w : World) (hs : s.size ≤ maxLen) :
    Calls Try.prog 21 #[.string s] w fun e w' => e = .returned (.bool (memoB s)) ∧ w = w' := by
  unfold maxLen at hs
  go_enter Try.func21, Try.ntmps21
  go_wp2_with fail
  go_loop [3] (fun i => ∃ k : Nat, k ≤ s.size ∧ i = .int .i64 k ∧ Hid (mchsB s.data.toList = mchsB (s.data.toList.drop k))) (fun i => s.size - (intOf i).toNat)
  case atStart => exact ⟨0, Nat.zero_le _, rfl, Lib.hid rfl⟩
  case round =>
    obtain ⟨k, hk, rfl, HH⟩ := hrel
    by_cases hlt : k < s.size
    · have HD := Lib.hid (drop_of_get (mget_byte s k hlt))
      go_wp2_with fail
      rw [mbyte_wrap]
      refine (i_within _ _ _ _).mono ?_
      rintro e w' ⟨rfl, rfl⟩
      rcases hb : inB (s[k].toNat : Int) 32 126 with _ | _
      · have HB := Lib.hid hb; clear hb
        go_wp2
        go_ret
        exact ⟨ret_bool (by unfold memoB; rw [HH.out, HD.out, mchsB_cons, show mchB s[k] = false from HB.out]; rfl), rfl⟩
      · have HB := Lib.hid hb; clear hb
        go_wp2
        first | (refine ⟨⟨k + 1, by omega, by go_num, Lib.hid (by rw [HH.out, HD.out, mchsB_cons, show mchB s[k] = true from HB.out]; rfl)⟩, ?_⟩; (simp [intOf]; omega)) | (go_round; (case rel => first | exact ⟨k + 1, by omega, by go_num, Lib.hid (by rw [HH.out, HD.out, mchsB_cons, show mchB s[k] = true from HB.out]; rfl)⟩ | ((try refine ⟨trivial, ?_⟩); (repeat apply Exists.intro); exact ⟨⟨k + 1, by omega, by go_num, Lib.hid (by rw [HH.out, HD.out, mchsB_cons, show mchB s[k] = true from HB.out]; rfl)⟩, rfl⟩)); (case measure => (simp [intOf]; omega)))
    · go_wp2_with fail
      refine (i_few _ _ _ (by omega) (by omega)).mono ?_
      rintro e w' ⟨rfl, rfl⟩
      go_wp2
      go_ret
      exact ⟨ret_bool (by unfold memoB; rw [HH.out, List.drop_of_length_le (by simp; omega)]; rfl), rfl⟩

set_option maxHeartbeats 400000 in
theorem s_l27Memo (s : ByteArray) (w : World) (hs : s.size ≤ maxLen) :
    Calls Try.prog 13 #[.string s] w fun e w' => e = .returned (.bool (memoB s)) ∧ w = w' := by
  unfold maxLen at hs
  go_enter Try.func13, Try.ntmps13
  go_wp2_with fail
  go_loop [3] (fun i => ∃ k : Nat, k ≤ s.size ∧ i = .int .i64 k ∧ Hid (mchsB s.data.toList = mchsB (s.data.toList.drop k))) (fun i => s.size - (intOf i).toNat)
  case atStart => exact ⟨0, Nat.zero_le _, rfl, Lib.hid rfl⟩
  case round =>
    obtain ⟨k, hk, rfl, HH⟩ := hrel
    by_cases hlt : k < s.size
    · have HD := Lib.hid (drop_of_get (mget_byte s k hlt))
      by_cases h1 : (s[k].toNat : Int) < 32
      · go_wp2
        go_ret
        exact ⟨ret_bool (by unfold memoB; rw [HH.out, HD.out, mchsB_cons, show mchB s[k] = false from inB_lo h1]; rfl), rfl⟩
      · by_cases h2 : (126 : Int) < s[k].toNat
        · go_wp2
          go_ret
          exact ⟨ret_bool (by unfold memoB; rw [HH.out, HD.out, mchsB_cons, show mchB s[k] = false from inB_hi h2]; rfl), rfl⟩
        · have HB : Hid (mchB s[k] = true) := Lib.hid (inB_true (by omega) (by omega))
          go_wp2
          first | (refine ⟨⟨k + 1, by omega, by go_num, Lib.hid (by rw [HH.out, HD.out, mchsB_cons, HB.out]; rfl)⟩, ?_⟩; (simp [intOf]; omega)) | (go_round; (case rel => first | exact ⟨k + 1, by omega, by go_num, Lib.hid (by rw [HH.out, HD.out, mchsB_cons, HB.out]; rfl)⟩ | ((try refine ⟨trivial, ?_⟩); (repeat apply Exists.intro); exact ⟨⟨k + 1, by omega, by go_num, Lib.hid (by rw [HH.out, HD.out, mchsB_cons, HB.out]; rfl)⟩, rfl⟩)); (case measure => (simp [intOf]; omega)))
    · go_wp2
      go_ret
      exact ⟨ret_bool (by unfold memoB; rw [HH.out, List.drop_of_length_le (by simp; omega)]; rfl), rfl⟩

end Go.Proofs.Ytfabijhilfjkcaa
