/- Grants: the program's test. -/
import Derived.Test.YtepegiklnhoobaaRows
import Derived.Test.YtepegiklnhoobaaGrants
import Derived.Test.YtepegiklnhoobaaShelf
import Derived.Deep.RegionHeld3
namespace Go.Proofs.Ytepegiklnhoobaa
set_option linter.unusedVariables false
set_option linter.unusedSimpArgs false
set_option linter.unusedSectionVars false
open Go.RowKit

set_option maxRecDepth 100000 in
set_option maxHeartbeats 1000000 in
theorem i_Grant_compare (x y : DGrant) (w : World) (hx : -4611686018427387904 ≤ x.fAction ∧ x.fAction ≤ 4611686018427387903) (hy : -4611686018427387904 ≤ y.fAction ∧ y.fAction ≤ 4611686018427387903) :
    Calls Try.prog 67 #[.agg #[.string x.fRole, .string x.fObject, .int .i64 x.fAction], .agg #[.string y.fRole, .string y.fObject, .int .i64 y.fAction]] w fun e w' => e = .returned (.int .i64 (cmpGr x y)) ∧ Below w.heap.size w w' := by
  have hK : Hid (Lib.compareBytes x.fRole.data.toList y.fRole.data.toList = cmpS x.fRole y.fRole) := Lib.hid rfl
  have hN : Hid (Lib.compareBytes x.fObject.data.toList y.fObject.data.toList = cmpS x.fObject y.fObject) := Lib.hid rfl
  go_enter Try.func67, Try.ntmps67
  go_wp2_with fail
  refine (Try.strings_Compare x.fRole y.fRole _).mono ?_
  rintro e w' ⟨rfl, hw⟩
  subst hw
  rw [hK.out]
  by_cases h : cmpS x.fRole y.fRole = 0
  · rw [h]
    go_wp2_with fail
    refine (Try.strings_Compare x.fObject y.fObject _).mono ?_
    rintro e w' ⟨rfl, hw⟩
    subst hw
    rw [hN.out]
    by_cases h2 : cmpS x.fObject y.fObject = 0
    · have E : Hid (cmpGr x y = x.fAction - y.fAction) := Lib.hid (by unfold cmpGr; rw [if_neg (by simpa using h), if_neg (by simpa using h2)])
      rw [h2]
      go_wp2
      go_ret
      exact ⟨ret_int E.out.symm, by (repeat (first | exact Below.refl _ _ | assumption | refine Below.drew ?_ | refine Below.alloc ?_ (by first | omega | (simp; done) | (simp; omega) | exact Below.size (by assumption)) _ | refine Below.setCell ?_ (by first | omega | (simp; done) | (simp; omega)) _))⟩
    · have E : Hid (cmpGr x y = cmpS x.fObject y.fObject) := Lib.hid (by unfold cmpGr; rw [if_neg (by simpa using h), if_pos h2])
      have h1 : (cmpS x.fObject y.fObject != 0) = true := by rw [bne_iff_ne]; exact h2
      clear h2
      go_wp2
      go_ret
      exact ⟨ret_int E.out.symm, by (repeat (first | exact Below.refl _ _ | assumption | refine Below.drew ?_ | refine Below.alloc ?_ (by first | omega | (simp; done) | (simp; omega) | exact Below.size (by assumption)) _ | refine Below.setCell ?_ (by first | omega | (simp; done) | (simp; omega)) _))⟩
  · have E : Hid (cmpGr x y = cmpS x.fRole y.fRole) := Lib.hid (by unfold cmpGr; rw [if_pos h])
    have h1 : (cmpS x.fRole y.fRole != 0) = true := by rw [bne_iff_ne]; exact h
    clear h
    go_wp2
    go_ret
    exact ⟨ret_int E.out.symm, by (repeat (first | exact Below.refl _ _ | assumption | refine Below.drew ?_ | refine Below.alloc ?_ (by first | omega | (simp; done) | (simp; omega) | exact Below.size (by assumption)) _ | refine Below.setCell ?_ (by first | omega | (simp; done) | (simp; omega)) _))⟩

set_option maxRecDepth 100000 in
set_option maxHeartbeats 1000000 in
theorem i_grantOk (A : Option Addr) (n c : Nat) (rl : List DRole) (x : DGrant) (w : World) (hr : RdRole w A n rl) (hn : n ≤ 1048576) (hg : x.good) :
    Calls Try.prog 66 #[.slice A n c, .agg #[.string x.fRole, .string x.fObject, .int .i64 x.fAction]] w (RetB (okG rl x) w) := by
  have hcx := range_new w #[.string x.fRole, .string x.fObject, .int .i64 x.fAction] 50
  have hb0 : Below w.heap.size w (w.alloc (.cells #[.string x.fRole, .string x.fObject, .int .i64 x.fAction] 50)) := (Below.refl _ _).alloc (Nat.le_refl _) _
  obtain ⟨W0, hW0⟩ : ∃ W0, w.alloc (.cells #[.string x.fRole, .string x.fObject, .int .i64 x.fAction] 50) = W0 := ⟨_, rfl⟩
  rw [hW0] at hcx hb0
  have hx00 := hcx 0 _ rfl
  simp only [Nat.zero_add] at hx00
  have hF := i_roleOf A n c rl x.fRole W0 (hr.below hb0) hn
  rcases fnd_cases rl x.fRole with ⟨hf, _⟩ | ⟨y, _, hf, hy, _⟩
  · have E := Lib.hid (okG_no hf)
    rw [hf] at hF
    clear hf
    go_enter Try.func66, Try.ntmps66
    go_wp2_with fail
    try rw [hW0]
    refine hF.mono ?_
    rintro e w1 ⟨rfl, hb1⟩
    have hb2 := hb0.trans (hb1.mono hb0.size)
    clear hF
    go_wp2
    go_ret
    exact ⟨ret_bool E.out.symm, hb2⟩
  · have E := Lib.hid (okG_yes hf)
    have hyn : y ≤ 1048576 := by have := (List.getElem?_eq_some_iff.1 hy).1; have := hr.len; omega
    rw [hf] at hF
    clear hf hy
    go_enter Try.func66, Try.ntmps66
    go_wp2_with fail
    try rw [hW0]
    clear hW0
    refine hF.mono ?_
    rintro e w1 ⟨rfl, hb1⟩
    have hb2 := hb0.trans (hb1.mono hb0.size)
    have hx1 := cell_later hb1 (hcx 1 _ rfl)
    have hx2 := cell_later hb1 (hcx 2 _ rfl)
    simp only [Nat.zero_add] at hx1 hx2
    clear hF hcx hb1 hb0 hx00
    have C1 := i_IsName x.fObject w1 hg.2.1
    rcases h1 : nameB x.fObject with _ | _
    · have H1 := Lib.hid h1
      rw [h1] at C1
      clear h1
      go_wp2_with fail
      refine C1.mono ?_
      rintro e w2 ⟨rfl, rfl⟩
      clear C1
      go_wp2
      go_ret
      exact ⟨ret_bool (by rw [E.out, H1.out]; rfl), hb2⟩
    · have H1 := Lib.hid h1
      rw [h1] at C1
      clear h1
      go_wp2_with fail
      refine C1.mono ?_
      rintro e w2 ⟨rfl, rfl⟩
      clear C1
      go_wp2_with fail
      refine (i_isAction x.fAction _).mono ?_
      rintro e w2 ⟨rfl, rfl⟩
      go_wp2
      go_ret
      exact ⟨ret_bool (by rw [E.out, H1.out]; rfl), hb2⟩

theorem okG_action {rl : List DRole} {x : DGrant} (h : okG rl x = true) : 1 ≤ x.fAction ∧ x.fAction ≤ 3 := by
  unfold okG at h
  rw [Bool.and_eq_true, Bool.and_eq_true] at h
  exact inB_spec h.2.2
set_option maxRecDepth 100000 in
set_option maxHeartbeats 2000000 in
theorem I_ValidGrants (A1 : Option Addr) (n1 c1 : Nat) (rl : List DRole) (A : Option Addr) (n c : Nat) (l : List DGrant) (w : World) (hrl : RdRole w A1 n1 rl) (hn1 : n1 ≤ 1048576) (hg1 : ∀ x ∈ rl, x.good) (hs1 : sumRole rl ≤ 1048576)
    (hr : Rd grantE w A n l) (hn : n ≤ 1048576) (hg : ∀ x ∈ l, x.good) (hs : sumGrant l ≤ 1048576) :
    Calls Try.prog 28 #[.slice A1 n1 c1, .slice A n c] w (RetB (grantsB rl l) w) := by
  have Hl := Lib.hid hr.1
  have HG := Lib.hid hg; clear hg
  have hroles := I_ValidRoles A1 n1 c1 rl w hrl hn1 hg1 hs1
  rcases hR : rolesB rl with _ | _
  · have E : Hid (grantsB rl l = false) := Lib.hid (grants_noroles hR)
    rw [hR] at hroles
    clear hR
    go_enter Try.func28, Try.ntmps28
    go_wp2_with fail
    refine hroles.mono ?_
    rintro e w1 ⟨rfl, hb1⟩
    clear hroles
    go_wp2
    go_ret
    exact ⟨ret_bool E.out.symm, hb1⟩
  · by_cases h48 : 48 < n
    · have E : Hid (grantsB rl l = false) := Lib.hid (grants_long (by have := Hl.out; omega))
      have hd : decide ((n : Int) ≤ 48) = false := decide_eq_false (by omega)
      rw [hR] at hroles
      clear hR
      go_enter Try.func28, Try.ntmps28
      go_wp2_with fail
      refine hroles.mono ?_
      rintro e w1 ⟨rfl, hb1⟩
      clear hroles
      have hfew := i_few (n : Int) 48 w1 (by omega) (by omega)
      rw [hd] at hfew
      go_wp2_with fail
      refine hfew.mono ?_
      rintro e w2 ⟨rfl, rfl⟩
      clear hfew
      go_wp2
      go_ret
      exact ⟨ret_bool E.out.symm, hb1⟩
    · have EQ : Hid (grantsB rl l = chainG rl l) := Lib.hid (grants_chain hR (by have := Hl.out; omega))
      have hd : decide ((n : Int) ≤ 48) = true := decide_eq_true (by omega)
      rw [hR] at hroles
      clear hR
      go_enter Try.func28, Try.ntmps28
      go_wp2_with fail
      refine hroles.mono ?_
      rintro e w1 ⟨rfl, hb1⟩
      clear hroles
      have hfew := i_few (n : Int) 48 w1 (by omega) (by omega)
      rw [hd] at hfew
      go_wp2_with fail
      refine hfew.mono ?_
      rintro e w2 ⟨rfl, rfl⟩
      clear hfew hd
      go_wp2_with fail
      go_loopw [18] (fun i wr => ∃ k : Nat, k ≤ n ∧ i = .int .i64 k ∧ Below w.heap.size w wr ∧ Hid (chainG rl l = chainB (okG rl) (fun x y => decide (cmpGr x y < 0)) (prevOf l k) (l.drop k) ∧ ∀ (j : Nat) y, j < k → l[j]? = some y → okG rl y = true)) (fun i _ => n - (intOf i).toNat)
      case atStart => exact ⟨0, Nat.zero_le _, rfl, hb1, Lib.hid ⟨rfl, fun j y h => absurd h (Nat.not_lt_zero _)⟩⟩
      case round =>
        clear hb1
        obtain ⟨k, hk, rfl, hb, HH⟩ := hrel
        by_cases hlt : k < n
        · obtain ⟨b, off, rfl, hcs⟩ := hr.2 (by omega)
          obtain ⟨x, hx⟩ : ∃ x, l[k]? = some x := ⟨_, List.getElem?_eq_getElem (by have := Hl.out; omega)⟩
          have hcr := range_below (B := 0) (hcs k x hx) hb
          have hc0 := hcr 0 (.string x.fRole) rfl
          have hc1 := hcr 1 (.string x.fObject) rfl
          have hc2 := hcr 2 (.int .i64 x.fAction) rfl
          simp only [grantE, Nat.add_zero] at hc0 hc1 hc2
          clear hcr
          have HGx := Lib.hid (HG.out x (mem_of_get hx))
          have HV0 : Hid (∀ W, Below w.heap.size w W → Calls Try.prog 66 #[.slice A1 n1 c1, .agg #[.string x.fRole, .string x.fObject, .int .i64 x.fAction]] W (RetB (okG rl x) W)) := Lib.hid (fun W h => i_grantOk A1 n1 c1 rl x W (hrl.below h) hn1 HGx.out)
          rcases hbx : okG rl x with _ | _
          · have HB := Lib.hid hbx
            have HV := HV0
            rw [hbx] at HV
            clear hbx HV0
            have E : Hid (grantsB rl l = false) := Lib.hid (by
              rw [EQ.out, HH.out.1]
              match k with
              | 0 => rw [chain_first hx, HB.out]; rfl
              | j + 1 =>
                obtain ⟨p, hp⟩ : ∃ p, l[j]? = some p := ⟨_, List.getElem?_eq_getElem (by have := Hl.out; omega)⟩
                rw [chain_next hp hx, HB.out]; rfl)
            clear hx hcs
            have hcx := range_new wr #[.string x.fRole, .string x.fObject, .int .i64 x.fAction] 50
            have hb0 : Below w.heap.size w (wr.alloc (.cells #[.string x.fRole, .string x.fObject, .int .i64 x.fAction] 50)) := hb.alloc hb.size _
            have hba : Below wr.heap.size wr (wr.alloc (.cells #[.string x.fRole, .string x.fObject, .int .i64 x.fAction] 50)) := (Below.refl _ _).alloc (Nat.le_refl _) _
            obtain ⟨W0, hW0⟩ : ∃ W0, wr.alloc (.cells #[.string x.fRole, .string x.fObject, .int .i64 x.fAction] 50) = W0 := ⟨_, rfl⟩
            go_wp2_with fail
            rw [hW0] at hcx hb0 hba
            try rw [hW0]
            have hx0 := hcx 0 (.string x.fRole) rfl
            have hx1 := hcx 1 (.string x.fObject) rfl
            have hx2 := hcx 2 (.int .i64 x.fAction) rfl
            simp only [Nat.zero_add] at hx0 hx1 hx2
            clear hW0 hcx hc0 hc1 hc2
            let S : World → Prop := fun w' => w'.cell? ⟨wr.heap.size, 0, none⟩ = some (.string x.fRole) ∧ w'.cell? ⟨wr.heap.size, 1, none⟩ = some (.string x.fObject) ∧ w'.cell? ⟨wr.heap.size, 2, none⟩ = some (.int .i64 x.fAction) ∧ Below w.heap.size w w'
            have hS : S (World.drew W0) := ⟨hx0, hx1, hx2, (hb0).drew⟩
            have hne : Nonempty (Wd S) := ⟨⟨_, hS⟩⟩
            have qc0 : ∀ t : Wd S, t.w.cell? ⟨wr.heap.size, 0, none⟩ = some (.string x.fRole) := fun t => t.h.1
            have qc1 : ∀ t : Wd S, t.w.cell? ⟨wr.heap.size, 1, none⟩ = some (.string x.fObject) := fun t => t.h.2.1
            have qc2 : ∀ t : Wd S, t.w.cell? ⟨wr.heap.size, 2, none⟩ = some (.int .i64 x.fAction) := fun t => t.h.2.2.1
            have Q9 : Hid (∀ (t : Wd S) (w' : World), Below t.w.heap.size t.w w' → S w') := Lib.hid (fun t w' h => ⟨cell_later h t.h.1, cell_later h t.h.2.1, cell_later h t.h.2.2.1, t.h.2.2.2.trans (h.mono t.h.2.2.2.size)⟩)
            have QE : Hid (∀ w', S w' → w'.cell? ⟨wr.heap.size, 0, none⟩ = some (.string x.fRole) ∧ w'.cell? ⟨wr.heap.size, 1, none⟩ = some (.string x.fObject) ∧ w'.cell? ⟨wr.heap.size, 2, none⟩ = some (.int .i64 x.fAction) ∧ Below w.heap.size w w') := Lib.hid (fun w' h => h)
            refine wp_region_class S (by kernel_rfl) (by kernel_rfl) hS ?_
            clear_value S
            repeat (go_big_quiet_step ((first | (go_at_call 66; exact class_call _ (HV.out _ (QE.out _ (Wd.h _)).2.2.2) (fun e w' h => ⟨h.1, Q9.out _ _ h.2⟩)))))
            refine wpQuiet_nil ?_
            rintro _ ⟨⟨w1, hw1⟩, rfl⟩
            have hE := QE.out _ hw1
            have hb2 := hE.2.2.2
            clear hE
            try dsimp only
            clear hw1 hS hne Q9 QE qc0 qc1 qc2
            go_wp2
            go_ret
            exact ⟨ret_bool E.out.symm, hb2⟩
          · have HB := Lib.hid hbx
            have HV := HV0
            rw [hbx] at HV
            clear hbx HV0
            have HA : Hid (∀ (j : Nat) y, j < k + 1 → l[j]? = some y → okG rl y = true) := Lib.hid (fun j y hj hy => by
              rcases Nat.lt_or_ge j k with h | h
              · exact HH.out.2 j y h hy
              · obtain rfl : j = k := by omega
                rw [hx] at hy
                cases hy
                exact HB.out)
            match k, hk, hlt, hx, HH, hc0, hc1, hc2, HA with
            | 0, hk, hlt, hx, HH, hc0, hc1, hc2, HA =>
              rw [Nat.zero_mul, Nat.add_zero] at hc0 hc1 hc2
              have HC : Hid (chainG rl l = chainB (okG rl) (fun x y => decide (cmpGr x y < 0)) (prevOf l 1) (l.drop 1) ∧ ∀ (j : Nat) y, j < 1 → l[j]? = some y → okG rl y = true) := Lib.hid ⟨by rw [HH.out.1, chain_first hx, HB.out]; rfl, HA.out⟩
              clear hx hcs HH
              have hcx := range_new wr #[.string x.fRole, .string x.fObject, .int .i64 x.fAction] 50
              have hb0 : Below w.heap.size w (wr.alloc (.cells #[.string x.fRole, .string x.fObject, .int .i64 x.fAction] 50)) := hb.alloc hb.size _
              have hba : Below wr.heap.size wr (wr.alloc (.cells #[.string x.fRole, .string x.fObject, .int .i64 x.fAction] 50)) := (Below.refl _ _).alloc (Nat.le_refl _) _
              obtain ⟨W0, hW0⟩ : ∃ W0, wr.alloc (.cells #[.string x.fRole, .string x.fObject, .int .i64 x.fAction] 50) = W0 := ⟨_, rfl⟩
              go_wp2_with fail
              rw [hW0] at hcx hb0 hba
              try rw [hW0]
              have hx0 := hcx 0 (.string x.fRole) rfl
              have hx1 := hcx 1 (.string x.fObject) rfl
              have hx2 := hcx 2 (.int .i64 x.fAction) rfl
              simp only [Nat.zero_add] at hx0 hx1 hx2
              clear hW0 hcx hc0 hc1 hc2
              let S : World → Prop := fun w' => w'.cell? ⟨wr.heap.size, 0, none⟩ = some (.string x.fRole) ∧ w'.cell? ⟨wr.heap.size, 1, none⟩ = some (.string x.fObject) ∧ w'.cell? ⟨wr.heap.size, 2, none⟩ = some (.int .i64 x.fAction) ∧ Below w.heap.size w w'
              have hS : S (World.drew W0) := ⟨hx0, hx1, hx2, (hb0).drew⟩
              have hne : Nonempty (Wd S) := ⟨⟨_, hS⟩⟩
              have qc0 : ∀ t : Wd S, t.w.cell? ⟨wr.heap.size, 0, none⟩ = some (.string x.fRole) := fun t => t.h.1
              have qc1 : ∀ t : Wd S, t.w.cell? ⟨wr.heap.size, 1, none⟩ = some (.string x.fObject) := fun t => t.h.2.1
              have qc2 : ∀ t : Wd S, t.w.cell? ⟨wr.heap.size, 2, none⟩ = some (.int .i64 x.fAction) := fun t => t.h.2.2.1
              have Q9 : Hid (∀ (t : Wd S) (w' : World), Below t.w.heap.size t.w w' → S w') := Lib.hid (fun t w' h => ⟨cell_later h t.h.1, cell_later h t.h.2.1, cell_later h t.h.2.2.1, t.h.2.2.2.trans (h.mono t.h.2.2.2.size)⟩)
              have QE : Hid (∀ w', S w' → w'.cell? ⟨wr.heap.size, 0, none⟩ = some (.string x.fRole) ∧ w'.cell? ⟨wr.heap.size, 1, none⟩ = some (.string x.fObject) ∧ w'.cell? ⟨wr.heap.size, 2, none⟩ = some (.int .i64 x.fAction) ∧ Below w.heap.size w w') := Lib.hid (fun w' h => h)
              refine wp_region_class S (by kernel_rfl) (by kernel_rfl) hS ?_
              clear_value S
              repeat (go_big_quiet_step ((first | (go_at_call 66; exact class_call _ (HV.out _ (QE.out _ (Wd.h _)).2.2.2) (fun e w' h => ⟨h.1, Q9.out _ _ h.2⟩)))))
              refine wpQuiet_nil ?_
              rintro _ ⟨⟨w1, hw1⟩, rfl⟩
              have hE := QE.out _ hw1
              have hb2 := hE.2.2.2
              clear hE
              try dsimp only
              clear hw1 hS hne Q9 QE qc0 qc1 qc2
              go_wp2
              first | (refine ⟨⟨1, by omega, by go_num, hb2, HC⟩, ?_⟩; (simp [intOf]; omega)) | (go_roundw; (case rel => first | exact ⟨1, by omega, by go_num, hb2, HC⟩ | ((try refine ⟨trivial, ?_⟩); (repeat apply Exists.intro); exact ⟨⟨1, by omega, by go_num, hb2, HC⟩, rfl⟩)); (case measure => (simp [intOf]; omega)))
            | j + 1, hk, hlt, hx, HH, hc0, hc1, hc2, HA =>
              obtain ⟨p, hp⟩ : ∃ p, l[j]? = some p := ⟨_, List.getElem?_eq_getElem (by have := Hl.out; omega)⟩
              have HP := Lib.hid (range_below (B := 0) (hcs j p hp) hb)
              have HC := HH.out.1.trans (chain_next hp hx)
              have hpa := okG_action (HH.out.2 j p (by omega) hp)
              have hxa := okG_action HB.out
              have HM : Hid (∀ W, Calls Try.prog 67 #[.agg #[.string p.fRole, .string p.fObject, .int .i64 p.fAction], .agg #[.string x.fRole, .string x.fObject, .int .i64 x.fAction]] W fun e w' => e = .returned (.int .i64 (cmpGr p x)) ∧ Below W.heap.size W w') := Lib.hid (fun W => i_Grant_compare p x W (by omega) (by omega))
              clear hpa hxa
              by_cases hcmp : cmpGr p x < 0
              · have HC' : Hid (chainG rl l = chainB (okG rl) (fun x y => decide (cmpGr x y < 0)) (prevOf l (j + 2)) (l.drop (j + 2)) ∧ ∀ (j' : Nat) y, j' < j + 2 → l[j']? = some y → okG rl y = true) := Lib.hid ⟨by rw [HC, HB.out, decide_eq_true hcmp]; rfl, HA.out⟩
                have hcg : ¬ (0 : Int) ≤ cmpGr p x := by omega
                clear hx hcs HH HC hp
                have hcx := range_new wr #[.string x.fRole, .string x.fObject, .int .i64 x.fAction] 50
                have hb0 : Below w.heap.size w (wr.alloc (.cells #[.string x.fRole, .string x.fObject, .int .i64 x.fAction] 50)) := hb.alloc hb.size _
                have hba : Below wr.heap.size wr (wr.alloc (.cells #[.string x.fRole, .string x.fObject, .int .i64 x.fAction] 50)) := (Below.refl _ _).alloc (Nat.le_refl _) _
                obtain ⟨W0, hW0⟩ : ∃ W0, wr.alloc (.cells #[.string x.fRole, .string x.fObject, .int .i64 x.fAction] 50) = W0 := ⟨_, rfl⟩
                go_wp2_with fail
                rw [hW0] at hcx hb0 hba
                try rw [hW0]
                have hx0 := hcx 0 (.string x.fRole) rfl
                have hx1 := hcx 1 (.string x.fObject) rfl
                have hx2 := hcx 2 (.int .i64 x.fAction) rfl
                simp only [Nat.zero_add] at hx0 hx1 hx2
                clear hW0 hcx hc0 hc1 hc2
                have hp0 := range_below (B := 0) HP.out hba 0 (.string p.fRole) rfl
                have hp1 := range_below (B := 0) HP.out hba 1 (.string p.fObject) rfl
                have hp2 := range_below (B := 0) HP.out hba 2 (.int .i64 p.fAction) rfl
                simp only [grantE, Nat.add_zero] at hp0 hp1 hp2
                let S : World → Prop := fun w' => w'.cell? ⟨wr.heap.size, 0, none⟩ = some (.string x.fRole) ∧ w'.cell? ⟨wr.heap.size, 1, none⟩ = some (.string x.fObject) ∧ w'.cell? ⟨wr.heap.size, 2, none⟩ = some (.int .i64 x.fAction) ∧ w'.cell? ⟨b, off + j * 3, none⟩ = some (.string p.fRole) ∧ w'.cell? ⟨b, off + j * 3 + 1, none⟩ = some (.string p.fObject) ∧ w'.cell? ⟨b, off + j * 3 + 2, none⟩ = some (.int .i64 p.fAction) ∧ Below w.heap.size w w'
                have hS : S (World.drew W0) := ⟨hx0, hx1, hx2, hp0, hp1, hp2, (hb0).drew⟩
                have hne : Nonempty (Wd S) := ⟨⟨_, hS⟩⟩
                have qc0 : ∀ t : Wd S, t.w.cell? ⟨wr.heap.size, 0, none⟩ = some (.string x.fRole) := fun t => t.h.1
                have qc1 : ∀ t : Wd S, t.w.cell? ⟨wr.heap.size, 1, none⟩ = some (.string x.fObject) := fun t => t.h.2.1
                have qc2 : ∀ t : Wd S, t.w.cell? ⟨wr.heap.size, 2, none⟩ = some (.int .i64 x.fAction) := fun t => t.h.2.2.1
                have qc3 : ∀ t : Wd S, t.w.cell? ⟨b, off + j * 3, none⟩ = some (.string p.fRole) := fun t => t.h.2.2.2.1
                have qc4 : ∀ t : Wd S, t.w.cell? ⟨b, off + j * 3 + 1, none⟩ = some (.string p.fObject) := fun t => t.h.2.2.2.2.1
                have qc5 : ∀ t : Wd S, t.w.cell? ⟨b, off + j * 3 + 2, none⟩ = some (.int .i64 p.fAction) := fun t => t.h.2.2.2.2.2.1
                have Q9 : Hid (∀ (t : Wd S) (w' : World), Below t.w.heap.size t.w w' → S w') := Lib.hid (fun t w' h => ⟨cell_later h t.h.1, cell_later h t.h.2.1, cell_later h t.h.2.2.1, cell_later h t.h.2.2.2.1, cell_later h t.h.2.2.2.2.1, cell_later h t.h.2.2.2.2.2.1, t.h.2.2.2.2.2.2.trans (h.mono t.h.2.2.2.2.2.2.size)⟩)
                have QE : Hid (∀ w', S w' → w'.cell? ⟨wr.heap.size, 0, none⟩ = some (.string x.fRole) ∧ w'.cell? ⟨wr.heap.size, 1, none⟩ = some (.string x.fObject) ∧ w'.cell? ⟨wr.heap.size, 2, none⟩ = some (.int .i64 x.fAction) ∧ w'.cell? ⟨b, off + j * 3, none⟩ = some (.string p.fRole) ∧ w'.cell? ⟨b, off + j * 3 + 1, none⟩ = some (.string p.fObject) ∧ w'.cell? ⟨b, off + j * 3 + 2, none⟩ = some (.int .i64 p.fAction) ∧ Below w.heap.size w w') := Lib.hid (fun w' h => h)
                refine wp_region_class S (by kernel_rfl) (by kernel_rfl) hS ?_
                clear_value S
                repeat (go_big_quiet_step ((first | (go_at_call 66; exact class_call _ (HV.out _ (QE.out _ (Wd.h _)).2.2.2.2.2.2) (fun e w' h => ⟨h.1, Q9.out _ _ h.2⟩)) | (go_at_call 67; exact class_call _ (HM.out _) (fun e w' h => ⟨h.1, Q9.out _ _ h.2⟩)))))
                refine wpQuiet_nil ?_
                rintro _ ⟨⟨w1, hw1⟩, rfl⟩
                have hE := QE.out _ hw1
                have hb2 := hE.2.2.2.2.2.2
                clear hE
                try dsimp only
                clear hw1 hS hne Q9 QE qc0 qc1 qc2 qc3 qc4 qc5
                go_wp2
                first | (refine ⟨⟨j + 2, by omega, by go_num, hb2, HC'⟩, ?_⟩; (simp [intOf]; omega)) | (go_roundw; (case rel => first | exact ⟨j + 2, by omega, by go_num, hb2, HC'⟩ | ((try refine ⟨trivial, ?_⟩); (repeat apply Exists.intro); exact ⟨⟨j + 2, by omega, by go_num, hb2, HC'⟩, rfl⟩)); (case measure => (simp [intOf]; omega)))
              · have E : Hid (grantsB rl l = false) := Lib.hid (by rw [EQ.out, HC, HB.out, decide_eq_false hcmp]; rfl)
                have hcg : (0 : Int) ≤ cmpGr p x := by omega
                clear hx hcs HH HC hp
                have hcx := range_new wr #[.string x.fRole, .string x.fObject, .int .i64 x.fAction] 50
                have hb0 : Below w.heap.size w (wr.alloc (.cells #[.string x.fRole, .string x.fObject, .int .i64 x.fAction] 50)) := hb.alloc hb.size _
                have hba : Below wr.heap.size wr (wr.alloc (.cells #[.string x.fRole, .string x.fObject, .int .i64 x.fAction] 50)) := (Below.refl _ _).alloc (Nat.le_refl _) _
                obtain ⟨W0, hW0⟩ : ∃ W0, wr.alloc (.cells #[.string x.fRole, .string x.fObject, .int .i64 x.fAction] 50) = W0 := ⟨_, rfl⟩
                go_wp2_with fail
                rw [hW0] at hcx hb0 hba
                try rw [hW0]
                have hx0 := hcx 0 (.string x.fRole) rfl
                have hx1 := hcx 1 (.string x.fObject) rfl
                have hx2 := hcx 2 (.int .i64 x.fAction) rfl
                simp only [Nat.zero_add] at hx0 hx1 hx2
                clear hW0 hcx hc0 hc1 hc2
                have hp0 := range_below (B := 0) HP.out hba 0 (.string p.fRole) rfl
                have hp1 := range_below (B := 0) HP.out hba 1 (.string p.fObject) rfl
                have hp2 := range_below (B := 0) HP.out hba 2 (.int .i64 p.fAction) rfl
                simp only [grantE, Nat.add_zero] at hp0 hp1 hp2
                let S : World → Prop := fun w' => w'.cell? ⟨wr.heap.size, 0, none⟩ = some (.string x.fRole) ∧ w'.cell? ⟨wr.heap.size, 1, none⟩ = some (.string x.fObject) ∧ w'.cell? ⟨wr.heap.size, 2, none⟩ = some (.int .i64 x.fAction) ∧ w'.cell? ⟨b, off + j * 3, none⟩ = some (.string p.fRole) ∧ w'.cell? ⟨b, off + j * 3 + 1, none⟩ = some (.string p.fObject) ∧ w'.cell? ⟨b, off + j * 3 + 2, none⟩ = some (.int .i64 p.fAction) ∧ Below w.heap.size w w'
                have hS : S (World.drew W0) := ⟨hx0, hx1, hx2, hp0, hp1, hp2, (hb0).drew⟩
                have hne : Nonempty (Wd S) := ⟨⟨_, hS⟩⟩
                have qc0 : ∀ t : Wd S, t.w.cell? ⟨wr.heap.size, 0, none⟩ = some (.string x.fRole) := fun t => t.h.1
                have qc1 : ∀ t : Wd S, t.w.cell? ⟨wr.heap.size, 1, none⟩ = some (.string x.fObject) := fun t => t.h.2.1
                have qc2 : ∀ t : Wd S, t.w.cell? ⟨wr.heap.size, 2, none⟩ = some (.int .i64 x.fAction) := fun t => t.h.2.2.1
                have qc3 : ∀ t : Wd S, t.w.cell? ⟨b, off + j * 3, none⟩ = some (.string p.fRole) := fun t => t.h.2.2.2.1
                have qc4 : ∀ t : Wd S, t.w.cell? ⟨b, off + j * 3 + 1, none⟩ = some (.string p.fObject) := fun t => t.h.2.2.2.2.1
                have qc5 : ∀ t : Wd S, t.w.cell? ⟨b, off + j * 3 + 2, none⟩ = some (.int .i64 p.fAction) := fun t => t.h.2.2.2.2.2.1
                have Q9 : Hid (∀ (t : Wd S) (w' : World), Below t.w.heap.size t.w w' → S w') := Lib.hid (fun t w' h => ⟨cell_later h t.h.1, cell_later h t.h.2.1, cell_later h t.h.2.2.1, cell_later h t.h.2.2.2.1, cell_later h t.h.2.2.2.2.1, cell_later h t.h.2.2.2.2.2.1, t.h.2.2.2.2.2.2.trans (h.mono t.h.2.2.2.2.2.2.size)⟩)
                have QE : Hid (∀ w', S w' → w'.cell? ⟨wr.heap.size, 0, none⟩ = some (.string x.fRole) ∧ w'.cell? ⟨wr.heap.size, 1, none⟩ = some (.string x.fObject) ∧ w'.cell? ⟨wr.heap.size, 2, none⟩ = some (.int .i64 x.fAction) ∧ w'.cell? ⟨b, off + j * 3, none⟩ = some (.string p.fRole) ∧ w'.cell? ⟨b, off + j * 3 + 1, none⟩ = some (.string p.fObject) ∧ w'.cell? ⟨b, off + j * 3 + 2, none⟩ = some (.int .i64 p.fAction) ∧ Below w.heap.size w w') := Lib.hid (fun w' h => h)
                refine wp_region_class S (by kernel_rfl) (by kernel_rfl) hS ?_
                clear_value S
                repeat (go_big_quiet_step ((first | (go_at_call 66; exact class_call _ (HV.out _ (QE.out _ (Wd.h _)).2.2.2.2.2.2) (fun e w' h => ⟨h.1, Q9.out _ _ h.2⟩)) | (go_at_call 67; exact class_call _ (HM.out _) (fun e w' h => ⟨h.1, Q9.out _ _ h.2⟩)))))
                refine wpQuiet_nil ?_
                rintro _ ⟨⟨w1, hw1⟩, rfl⟩
                have hE := QE.out _ hw1
                have hb2 := hE.2.2.2.2.2.2
                clear hE
                try dsimp only
                clear hw1 hS hne Q9 QE qc0 qc1 qc2 qc3 qc4 qc5
                go_wp2
                go_ret
                exact ⟨ret_bool E.out.symm, hb2⟩
        · have E : Hid (grantsB rl l = true) := Lib.hid (by
            rw [EQ.out, HH.out.1, List.drop_of_length_le (by have := Hl.out; omega)]
            unfold chainB
            rfl)
          go_wp2
          go_ret
          exact ⟨ret_bool E.out.symm, hb⟩

end Go.Proofs.Ytepegiklnhoobaa
