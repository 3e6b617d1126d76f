/- Reading: Grant. -/
import Derived.Test.YtbblkmnafdmcdaaDoorRows
import Derived.Test.YtbblkmnafdmcdaaDoorGrantLaw
import Derived.Test.YtbblkmnafdmcdaaDoorCGrant
import Derived.Test.YtbblkmnafdmcdaaDoorRes
import Derived.Deep.RegionHeld3
namespace Go.Proofs.YtbblkmnafdmcdaaDoor
set_option linter.unusedVariables false
set_option linter.unusedSimpArgs false
set_option linter.unusedSectionVars false
open Go.RowKit

theorem cell_under {B : Nat} {w w' : World} {p : Addr} {v : Value} (hb : Below B w w') (hp : p.block < B) (h : w.cell? p = some v) : w'.cell? p = some v := by
  rw [World.cell?_of_block (hb.block p.block hp)]
  exact h
theorem free_under {B : Nat} {w w' : World} {p : Addr} (hb : Below B w w') (hp : p.block < B) (h : w.frozen? p = false) : w'.frozen? p = false := by
  unfold World.frozen? at *
  rw [hb.block p.block hp]
  exact h
theorem act_four (b : ByteArray) : actTo b 4 = actOf b := by
  show (if actionName 3 = b then (3 : Int) else if actionName 2 = b then 2 else if actionName 1 = b then 1 else if actionName 0 = b then 0 else 0) = _
  rw [ite_self]
  rfl

set_option maxRecDepth 100000 in
set_option maxHeartbeats 4000000 in
theorem s_l28Read (s : ByteArray) (w : World) (hs : s.size ≤ 1048576) :
    Calls Tryd.prog 19 #[.string s] w fun e w' => ∃ x : DGrant, Hid (x = grantV s) ∧ e = .returned (.tuple #[.agg #[.string x.fRole, .string x.fObject, .int .i64 x.fAction], .bool (grantGood s)]) ∧ Below w.heap.size w w' := by
  have hR := range_new w #[.string ⟨#[]⟩, .string ⟨#[]⟩, .int .i64 0] 29
  have hfr := fun j => new_free w #[.string ⟨#[]⟩, .string ⟨#[]⟩, .int .i64 0] 29 j
  have hb0 : Below w.heap.size w (w.alloc (.cells #[.string ⟨#[]⟩, .string ⟨#[]⟩, .int .i64 0] 29)) := (Below.refl _ _).alloc (Nat.le_refl _) _
  obtain ⟨W0, hW0⟩ : ∃ W0, w.alloc (.cells #[.string ⟨#[]⟩, .string ⟨#[]⟩, .int .i64 0] 29) = W0 := ⟨_, rfl⟩
  have hsz : W0.heap.size = w.heap.size + 1 := by rw [← hW0]; simp
  rw [hW0] at hR hfr hb0
  go_enter Tryd.func19, Tryd.ntmps19
  go_wp2_with fail
  try rw [hW0]
  clear hW0
  refine (s_l01Split s 32 _ hs).mono ?_
  rintro e w1 ⟨A, n, c, hl, hn, ho, rfl, hb⟩
  have hgl : GL strE 9 W0.heap.size w1 (.slice A n c) (cutsB 32 s) := by unfold GL; rw [hl]; exact ho
  have hbF := hb0.trans (hb.mono hb0.size)
  have hsz1 := hb.size
  rw [hsz] at hsz1
  have hR1 := range_below (B := 0) hR hb
  have hr0 := hR1 0 _ rfl
  have hf0 := free_later (hfr 0) (by simp; omega) hb
  have hr1 := hR1 1 _ rfl
  have hf1 := free_later (hfr 1) (by simp; omega) hb
  have hr2 := hR1 2 _ rfl
  have hf2 := free_later (hfr 2) (by simp; omega) hb
  simp only [Nat.zero_add] at hr0 hr1 hr2
  clear ho hR hfr hR1
  by_cases h3 : n = 3
  · subst h3
    have hrd := hgl.rd
    obtain ⟨b, off, p0, hAe, hp0, hcs0⟩ := hrd.get (k := 0) (by omega)
    subst hAe
    obtain ⟨b1, off1, p1, hAe1, hp1, hcs1⟩ := hrd.get (k := 1) (by omega)
    cases hAe1
    obtain ⟨b2, off2, p2, hAe2, hp2, hcs2⟩ := hrd.get (k := 2) (by omega)
    cases hAe2
    have hc0 := hcs0 0 (.string p0) rfl
    have hc1 := hcs1 0 (.string p1) rfl
    have hc2 := hcs2 0 (.string p2) rfl
    simp only [strE, Nat.mul_one, Nat.zero_mul, Nat.add_zero] at hc0 hc1 hc2
    have hbb : b < w1.heap.size := (hgl.own.2.lt b rfl).2
    have hlst : cutsB 32 s = [p0, p1, p2] := by
      match hh : cutsB 32 s, hl with
      | [x, y, z], _ =>
        rw [hh] at hp0 hp1 hp2
        simp at hp0 hp1 hp2
        rw [hp0, hp1, hp2]
    have hz0 := piece_size hp0
    have hz2 := piece_size hp2
    have HO := Lib.hid (grantO_three hlst)
    clear hcs0 hcs1 hcs2 hp0 hp1 hp2 hlst hl hrd hgl
    have hk0 : ∀ o, (w1.alloc o).drew.cell? ⟨b, off, none⟩ = some (.string p0) := fun o => (World.cell?_alloc_lt w1 o _ hbb).trans hc0
    have hk2 : ∀ o, (w1.alloc o).drew.cell? ⟨b, off + 2, none⟩ = some (.string p2) := fun o => (World.cell?_alloc_lt w1 o _ hbb).trans hc2
    go_wp2_with fail
    go_region_held3 (fun w' => w'.cell? ⟨b, off, none⟩ = some (.string p0) ∧ w'.cell? ⟨b, off + 2, none⟩ = some (.string p2)) (first | exact ⟨hc0, hc2⟩ | exact ⟨hk0 _, hk2 _⟩) (first | fail)
    have hbx : Below w1.heap.size w1 (w1.alloc (.cells #[.string p0, .string p2, .int .i64 0] 29)).drew := ((Below.refl _ _).alloc (Nat.le_refl _) _).drew
    have hxR : (w1.alloc (.cells #[.string p0, .string p2, .int .i64 0] 29)).drew.rangeAt w1.heap.size 0 (grantE.cells ⟨p0, p2, 0⟩) := range_new w1 #[.string p0, .string p2, .int .i64 0] 29
    have hxF : (w1.alloc (.cells #[.string p0, .string p2, .int .i64 0] 29)).drew.frozen? ⟨w1.heap.size, 2, none⟩ = false := new_free w1 #[.string p0, .string p2, .int .i64 0] 29 2
    have hxS : (w1.alloc (.cells #[.string p0, .string p2, .int .i64 0] 29)).drew.heap.size = w1.heap.size + 1 := by show (w1.alloc _).heap.size = _; simp
    obtain ⟨W2, hW2⟩ : ∃ W, (w1.alloc (.cells #[.string p0, .string p2, .int .i64 0] 29)).drew = W := ⟨_, rfl⟩
    rw [hW2] at hbx hxR hxF hxS
    have hc1' := cell_later hbx hc1
    replace hr0 := cell_later hbx hr0
    replace hf0 := free_later hf0 (by simp; omega) hbx
    replace hr1 := cell_later hbx hr1
    replace hf1 := free_later hf1 (by simp; omega) hbx
    replace hr2 := cell_later hbx hr2
    replace hf2 := free_later hf2 (by simp; omega) hbx
    replace hbF := hbF.trans (hbx.mono hbF.size)
    have hy0 := hxR 0 _ rfl
    have hy1 := hxR 1 _ rfl
    have hy2 := hxR 2 _ rfl
    simp only [Nat.zero_add] at hy0 hy1 hy2
    obtain ⟨bx, hbxe⟩ : ∃ bx, w1.heap.size = bx := ⟨_, rfl⟩
    clear hk0 hk2 hbx hc0 hc1 hc2 hxR
    rename_i hheld; clear hheld
    go_wp2_with fail
    try rw [hW2]
    clear hW2
    rw [hbxe] at hy0 hy1 hy2 hxF hxS hbb hsz1
    try rw [hbxe]
    go_loopw [6] (fun i wr => ∃ k : Nat, 1 ≤ k ∧ k ≤ 4 ∧ i = .int .i64 k ∧ Below bx W2 wr ∧ wr.cell? ⟨bx, 0, none⟩ = some (.string p0) ∧ wr.cell? ⟨bx, 1, none⟩ = some (.string p2) ∧ wr.cell? ⟨bx, 2, none⟩ = some (.int .i64 (actTo p1 k)) ∧ wr.frozen? ⟨bx, 2, none⟩ = false) (fun i _ => 4 - (intOf i).toNat)
    case atStart => exact ⟨1, by omega, by omega, rfl, Below.refl _ _, hy0, hy1, by rw [hy2]; simp [actTo], hxF⟩
    case round =>
      obtain ⟨k, hk1, hk4, rfl, hbk, hx0, hx1, hx2, hxf⟩ := hrel
      have hcb := cell_under hbk (p := ⟨b, off + 1, none⟩) (by simp; omega) hc1'
      by_cases hlt : k ≤ 3
      · have C0 : ∀ W, Calls Tryd.prog 29 #[.int .i64 k] W fun e w' => e = .returned (.string (actionName k)) ∧ W = w' := fun W => s_l28Name _ W
        have hbd : ∀ m, Below bx W2 (wr.drewN m) := fun m => below_drewN hbk m
        rcases ht : ((actionName (k : Int)).toList == p1.toList) with _ | _
        · have HA : Hid (actTo p1 (k + 1) = actTo p1 k) := Lib.hid (by
            have : ¬ actionName (k : Int) = p1 := fun e => by rw [e, beq_self_eq_true] at ht; cases ht
            rw [actTo, if_neg this])
          have hx0d : ∀ m, (wr.drewN m).cell? ⟨bx, 0, none⟩ = some (.string p0) := fun m => hx0
          have hx1d : ∀ m, (wr.drewN m).cell? ⟨bx, 1, none⟩ = some (.string p2) := fun m => hx1
          have hx2d : ∀ m, (wr.drewN m).cell? ⟨bx, 2, none⟩ = some (.int .i64 (actTo p1 (k + 1))) := fun m => by rw [HA.out]; exact hx2
          have hxfd : ∀ m, (wr.drewN m).frozen? ⟨bx, 2, none⟩ = false := fun m => hxf
          go_wp2_with fail
          go_quiet (first | (go_at_call 29; with_reducible exact quiet_left (C0 _)))
          go_wp2
          first | (refine ⟨⟨k + 1, by omega, by omega, by go_num, hbd _, hx0d _, hx1d _, hx2d _, hxfd _⟩, ?_⟩; (simp [intOf]; omega)) | (go_roundw; (case rel => first | exact ⟨k + 1, by omega, by omega, by go_num, hbd _, hx0d _, hx1d _, hx2d _, hxfd _⟩ | ((try refine ⟨trivial, ?_⟩); (repeat apply Exists.intro); exact ⟨⟨k + 1, by omega, by omega, by go_num, hbd _, hx0d _, hx1d _, hx2d _, hxfd _⟩, rfl⟩)); (case measure => (simp [intOf]; omega)))
        · have HA : Hid (actTo p1 (k + 1) = (k : Int)) := Lib.hid (by
            have : actionName (k : Int) = p1 := by
              rw [beq_iff_eq, ByteArray.toList_eq, ByteArray.toList_eq] at ht
              rw [← ofL_self (actionName (k : Int)), ht, ofL_self]
            rw [actTo, if_pos this])
          have hbs : ∀ m, Below bx W2 ((wr.drewN m).setCell ⟨bx, 2, none⟩ (.int .i64 k)) := fun m => (hbd m).setCell (Nat.le_refl _) _
          have hx0d : ∀ m, ((wr.drewN m).setCell ⟨bx, 2, none⟩ (.int .i64 k)).cell? ⟨bx, 0, none⟩ = some (.string p0) := fun m => (World.cell?_setCell_other (w := wr.drewN m) (a := ⟨bx, 2, none⟩) (b := ⟨bx, 0, none⟩) (v := .int .i64 k) (fun h => by cases h)).trans hx0
          have hx1d : ∀ m, ((wr.drewN m).setCell ⟨bx, 2, none⟩ (.int .i64 k)).cell? ⟨bx, 1, none⟩ = some (.string p2) := fun m => (World.cell?_setCell_other (w := wr.drewN m) (a := ⟨bx, 2, none⟩) (b := ⟨bx, 1, none⟩) (v := .int .i64 k) (fun h => by cases h)).trans hx1
          have hx2d : ∀ m, ((wr.drewN m).setCell ⟨bx, 2, none⟩ (.int .i64 k)).cell? ⟨bx, 2, none⟩ = some (.int .i64 (actTo p1 (k + 1))) := fun m => by rw [HA.out]; exact World.cell?_setCell_same (w := wr.drewN m) (a := ⟨bx, 2, none⟩) (u := .int .i64 (actTo p1 k)) (v := .int .i64 k) hx2
          have hxfd : ∀ m, ((wr.drewN m).setCell ⟨bx, 2, none⟩ (.int .i64 k)).frozen? ⟨bx, 2, none⟩ = false := fun m => by rw [World.frozen?_setCell]; exact hxf
          go_wp2_with fail
          go_quiet (first | (go_at_call 29; with_reducible exact quiet_left (C0 _)))
          go_wp2
          first | (refine ⟨⟨k + 1, by omega, by omega, by go_num, hbs _, hx0d _, hx1d _, hx2d _, hxfd _⟩, ?_⟩; (simp [intOf]; omega)) | (go_roundw; (case rel => first | exact ⟨k + 1, by omega, by omega, by go_num, hbs _, hx0d _, hx1d _, hx2d _, hxfd _⟩ | ((try refine ⟨trivial, ?_⟩); (repeat apply Exists.intro); exact ⟨⟨k + 1, by omega, by omega, by go_num, hbs _, hx0d _, hx1d _, hx2d _, hxfd _⟩, rfl⟩)); (case measure => (simp [intOf]; omega)))
      · obtain rfl : k = 4 := by omega
        rw [act_four] at hx2
        have hrx : wr.rangeAt bx 0 (grantE.cells ⟨p0, p2, actOf p1⟩) := fun j v hv => by
          match j, hv with
          | 0, hv => cases hv; exact hx0
          | 1, hv => cases hv; exact hx1
          | 2, hv => cases hv; exact hx2
        have hgood : (⟨p0, p2, actOf p1⟩ : DGrant).good := ⟨by show p0.size ≤ maxLen; unfold maxLen; omega, by show p2.size ≤ maxLen; unfold maxLen; omega, by show _ ≤ actOf p1 ∧ actOf p1 ≤ _; unfold actOf; split <;> (try split) <;> (try split) <;> omega⟩
        replace hr0 := cell_under hbk (by simp; omega) hr0
        replace hf0 := free_under hbk (by simp; omega) hf0
        replace hr1 := cell_under hbk (by simp; omega) hr1
        replace hf1 := free_under hbk (by simp; omega) hf1
        replace hr2 := cell_under hbk (by simp; omega) hr2
        replace hf2 := free_under hbk (by simp; omega) hf2
        have hbF := hbF.trans (hbk.mono (show w.heap.size ≤ bx by omega))
        go_wp2_with fail
        refine (s_l28Fine bx 0 ⟨p0, p2, actOf p1⟩ _ hgood hrx).mono ?_
        rintro e w3 ⟨rfl, hE⟩
        subst hE
        rcases hq : grantOkB ⟨p0, p2, actOf p1⟩ with _ | _
        · have E : Hid (grantO s = none) := Lib.hid (by rw [HO.out, hq]; rfl)
          clear hq
          have HF := set_cells (w := wr) (g := w.heap.size) [.string ⟨#[]⟩, .string ⟨#[]⟩, .int .i64 0] 0 (fun j hj => by
            match j, hj with
            | 0, _ => exact ⟨_, hr0⟩
            | 1, _ => exact ⟨_, hr1⟩
            | 2, _ => exact ⟨_, hr2⟩)
          have hbW := below_setCells (Nat.le_refl w.heap.size) [.string ⟨#[]⟩, .string ⟨#[]⟩, .int .i64 0] 0 hbF
          go_wp2
          change bodyPost _ _ _ _ _ ((wr).setCells w.heap.size 0 [.string ⟨#[]⟩, .string ⟨#[]⟩, .int .i64 0])
          generalize (wr).setCells w.heap.size 0 [.string ⟨#[]⟩, .string ⟨#[]⟩, .int .i64 0] = Wf at *
          have qf0 := HF 0 _ rfl
          have qf1 := HF 1 _ rfl
          have qf2 := HF 2 _ rfl
          simp only [Nat.zero_add] at qf0 qf1 qf2
          exact bodyPost_ret (v := .tuple #[.agg #[.string ⟨#[]⟩, .string ⟨#[]⟩, .int .i64 0], .bool false]) (by simp [results, Tryd.results19, go_sem, qf0, qf1, qf2]) rfl ⟨⟨⟨#[]⟩, ⟨#[]⟩, 0⟩, Lib.hid (by unfold grantV; rw [E.out]; rfl), by unfold grantGood; rw [E.out]; rfl, hbW⟩
        · have E : Hid (grantO s = some ⟨p0, p2, actOf p1⟩) := Lib.hid (by rw [HO.out, hq]; rfl)
          clear hq
          have HF := set_cells (w := wr) (g := w.heap.size) [.string p0, .string p2, .int .i64 (actOf p1)] 0 (fun j hj => by
            match j, hj with
            | 0, _ => exact ⟨_, hr0⟩
            | 1, _ => exact ⟨_, hr1⟩
            | 2, _ => exact ⟨_, hr2⟩)
          have hbW := below_setCells (Nat.le_refl w.heap.size) [.string p0, .string p2, .int .i64 (actOf p1)] 0 hbF
          go_wp2
          change bodyPost _ _ _ _ _ ((wr).setCells w.heap.size 0 [.string p0, .string p2, .int .i64 (actOf p1)])
          generalize (wr).setCells w.heap.size 0 [.string p0, .string p2, .int .i64 (actOf p1)] = Wf at *
          have qf0 := HF 0 _ rfl
          have qf1 := HF 1 _ rfl
          have qf2 := HF 2 _ rfl
          simp only [Nat.zero_add] at qf0 qf1 qf2
          exact bodyPost_ret (v := .tuple #[.agg #[.string p0, .string p2, .int .i64 (actOf p1)], .bool true]) (by simp [results, Tryd.results19, go_sem, qf0, qf1, qf2]) rfl ⟨⟨p0, p2, actOf p1⟩, Lib.hid (by unfold grantV; rw [E.out]; rfl), by unfold grantGood; rw [E.out]; rfl, hbW⟩
  · have E : Hid (grantO s = none) := Lib.hid (grantO_not (by rw [hl]; exact h3))
    clear hl hgl
    have HF := set_cells (w := w1) (g := w.heap.size) [.string ⟨#[]⟩, .string ⟨#[]⟩, .int .i64 0] 0 (fun j hj => by
      match j, hj with
      | 0, _ => exact ⟨_, hr0⟩
      | 1, _ => exact ⟨_, hr1⟩
      | 2, _ => exact ⟨_, hr2⟩)
    have hbW := below_setCells (Nat.le_refl w.heap.size) [.string ⟨#[]⟩, .string ⟨#[]⟩, .int .i64 0] 0 hbF
    go_wp2
    change bodyPost _ _ _ _ _ ((w1).setCells w.heap.size 0 [.string ⟨#[]⟩, .string ⟨#[]⟩, .int .i64 0])
    generalize (w1).setCells w.heap.size 0 [.string ⟨#[]⟩, .string ⟨#[]⟩, .int .i64 0] = Wf at *
    have qf0 := HF 0 _ rfl
    have qf1 := HF 1 _ rfl
    have qf2 := HF 2 _ rfl
    simp only [Nat.zero_add] at qf0 qf1 qf2
    exact bodyPost_ret (v := .tuple #[.agg #[.string ⟨#[]⟩, .string ⟨#[]⟩, .int .i64 0], .bool false]) (by simp [results, Tryd.results19, go_sem, qf0, qf1, qf2]) rfl ⟨⟨⟨#[]⟩, ⟨#[]⟩, 0⟩, Lib.hid (by unfold grantV; rw [E.out]; rfl), by unfold grantGood; rw [E.out]; rfl, hbW⟩
set_option maxRecDepth 100000 in
set_option maxHeartbeats 4000000 in
theorem S_ReadGrant (s : ByteArray) (w : World) (hs : s.size ≤ 1048576) :
    Calls Tryd.prog 10 #[.string s] w fun e w' => ∃ x : DGrant, Hid (x = grantV s) ∧ e = .returned (.tuple #[.agg #[.string x.fRole, .string x.fObject, .int .i64 x.fAction], .bool (grantGood s)]) ∧ Below w.heap.size w w' := by
  have hR := range_new w #[.string ⟨#[]⟩, .string ⟨#[]⟩, .int .i64 0] 29
  have hfr := fun j => new_free w #[.string ⟨#[]⟩, .string ⟨#[]⟩, .int .i64 0] 29 j
  have hb0 : Below w.heap.size w (w.alloc (.cells #[.string ⟨#[]⟩, .string ⟨#[]⟩, .int .i64 0] 29)) := (Below.refl _ _).alloc (Nat.le_refl _) _
  obtain ⟨W0, hW0⟩ : ∃ W0, w.alloc (.cells #[.string ⟨#[]⟩, .string ⟨#[]⟩, .int .i64 0] 29) = W0 := ⟨_, rfl⟩
  have hsz : W0.heap.size = w.heap.size + 1 := by rw [← hW0]; simp
  rw [hW0] at hR hfr hb0
  go_enter Tryd.func10, Tryd.ntmps10
  go_wp2_with fail
  try rw [hW0]
  clear hW0
  refine (s_l28Read s _ hs).mono ?_
  rintro e w1 ⟨x, hx, rfl, hb⟩
  have hbF := hb0.trans (hb.mono hb0.size)
  have hR1 := range_below (B := 0) hR hb
  have hr0 := hR1 0 _ rfl
  have hf0 := free_later (hfr 0) (by simp; omega) hb
  have hr1 := hR1 1 _ rfl
  have hf1 := free_later (hfr 1) (by simp; omega) hb
  have hr2 := hR1 2 _ rfl
  have hf2 := free_later (hfr 2) (by simp; omega) hb
  simp only [Nat.zero_add] at hr0 hr1 hr2
  clear hR hfr hR1
  have HF := set_cells (w := w1) (g := w.heap.size) [.string x.fRole, .string x.fObject, .int .i64 x.fAction] 0 (fun j hj => by
    match j, hj with
    | 0, _ => exact ⟨_, hr0⟩
    | 1, _ => exact ⟨_, hr1⟩
    | 2, _ => exact ⟨_, hr2⟩)
  have hbW := below_setCells (Nat.le_refl w.heap.size) [.string x.fRole, .string x.fObject, .int .i64 x.fAction] 0 hbF
  go_wp2
  change bodyPost _ _ _ _ _ ((w1).setCells w.heap.size 0 [.string x.fRole, .string x.fObject, .int .i64 x.fAction])
  generalize (w1).setCells w.heap.size 0 [.string x.fRole, .string x.fObject, .int .i64 x.fAction] = Wf at *
  have qf0 := HF 0 _ rfl
  have qf1 := HF 1 _ rfl
  have qf2 := HF 2 _ rfl
  simp only [Nat.zero_add] at qf0 qf1 qf2
  exact bodyPost_ret (v := .tuple #[.agg #[.string x.fRole, .string x.fObject, .int .i64 x.fAction], .bool (grantGood s)]) (by simp [results, Tryd.results10, go_sem, qf0, qf1, qf2]) rfl ⟨x, hx, rfl, hbW⟩
theorem gword_size {s p : ByteArray} {k : Nat} (h : (wordsB s)[k]? = some p) : p.size ≤ s.size := by
  have h1 := List.mem_of_getElem? h
  unfold wordsB at h1
  obtain ⟨j, hj⟩ := List.mem_iff_getElem?.1 (List.mem_filter.1 h1).1
  exact piece_size hj
set_option maxRecDepth 100000 in
set_option maxHeartbeats 4000000 in
theorem I_ReadGrant (s : ByteArray) (w : World) (hs : s.size ≤ 1048576) (hL : LibW w) :
    Calls Tryd.prog 11 #[.string s] w fun e w' => ∃ x : DGrant, Hid (x = grantV s) ∧ e = .returned (.tuple #[.agg #[.string x.fRole, .string x.fObject, .int .i64 x.fAction], .bool (grantGood s)]) ∧ Below w.heap.size w w' := by
  have hR := range_new w #[.string ⟨#[]⟩, .string ⟨#[]⟩, .int .i64 0] 29
  have hfr := fun j => new_free w #[.string ⟨#[]⟩, .string ⟨#[]⟩, .int .i64 0] 29 j
  have hb0 : Below w.heap.size w (w.alloc (.cells #[.string ⟨#[]⟩, .string ⟨#[]⟩, .int .i64 0] 29)) := (Below.refl _ _).alloc (Nat.le_refl _) _
  obtain ⟨W0, hW0⟩ : ∃ W0, w.alloc (.cells #[.string ⟨#[]⟩, .string ⟨#[]⟩, .int .i64 0] 29) = W0 := ⟨_, rfl⟩
  have hsz : W0.heap.size = w.heap.size + 1 := by rw [← hW0]; simp
  rw [hW0] at hR hfr hb0
  go_enter Tryd.func11, Tryd.ntmps11
  go_wp2_with fail
  try rw [hW0]
  clear hW0
  refine (i_SplitWords s _ hs (hL.below hb0)).mono ?_
  rintro e w1 ⟨A, n, c, hl, hn, ho, rfl, hb⟩
  have hgl : GL strE 9 W0.heap.size w1 (.slice A n c) (wordsB s) := by unfold GL; rw [hl]; exact ho
  have hbF := hb0.trans (hb.mono hb0.size)
  have hsz1 := hb.size
  rw [hsz] at hsz1
  have hR1 := range_below (B := 0) hR hb
  have hr0 := hR1 0 _ rfl
  have hf0 := free_later (hfr 0) (by simp; omega) hb
  have hr1 := hR1 1 _ rfl
  have hf1 := free_later (hfr 1) (by simp; omega) hb
  have hr2 := hR1 2 _ rfl
  have hf2 := free_later (hfr 2) (by simp; omega) hb
  simp only [Nat.zero_add] at hr0 hr1 hr2
  clear ho hR hfr hR1
  by_cases h3 : n = 3
  · subst h3
    have hrd := hgl.rd
    obtain ⟨b, off, p0, hAe, hp0, hcs0⟩ := hrd.get (k := 0) (by omega)
    subst hAe
    obtain ⟨b1, off1, p1, hAe1, hp1, hcs1⟩ := hrd.get (k := 1) (by omega)
    cases hAe1
    obtain ⟨b2, off2, p2, hAe2, hp2, hcs2⟩ := hrd.get (k := 2) (by omega)
    cases hAe2
    have hc0 := hcs0 0 (.string p0) rfl
    have hc1 := hcs1 0 (.string p1) rfl
    have hc2 := hcs2 0 (.string p2) rfl
    simp only [strE, Nat.mul_one, Nat.zero_mul, Nat.add_zero] at hc0 hc1 hc2
    have hbb : b < w1.heap.size := (hgl.own.2.lt b rfl).2
    have hlst : wordsB s = [p0, p1, p2] := by
      match hh : wordsB s, hl with
      | [x, y, z], _ =>
        rw [hh] at hp0 hp1 hp2
        simp at hp0 hp1 hp2
        rw [hp0, hp1, hp2]
    have hz0 := gword_size hp0
    have hz2 := gword_size hp2
    have HW := Lib.hid hlst
    clear hcs0 hcs1 hcs2 hp0 hp1 hp2 hlst hl hrd hgl hc1
    go_wp2_with fail
    go_loopw [5] (fun i wr => ∃ k : Nat, 1 ≤ k ∧ k ≤ 4 ∧ i = .int .i64 k ∧ Below w1.heap.size w1 wr ∧ Hid (∀ j : Nat, 1 ≤ j → j < k → grantO s ≠ some ⟨p0, p2, j⟩)) (fun i _ => 4 - (intOf i).toNat)
    case atStart => exact ⟨1, by omega, by omega, rfl, Below.refl _ _, Lib.hid (fun j h1 h2 => by omega)⟩
    case round =>
      obtain ⟨k, hk1, hk4, rfl, hbk, HN⟩ := hrel
      have hbks := hbk.size
      have hbF := hbF.trans (hbk.mono hbF.size)
      replace hr0 := cell_later hbk hr0
      replace hf0 := free_later hf0 (by simp; omega) hbk
      replace hr1 := cell_later hbk hr1
      replace hf1 := free_later hf1 (by simp; omega) hbk
      replace hr2 := cell_later hbk hr2
      replace hf2 := free_later hf2 (by simp; omega) hbk
      by_cases hlt : k ≤ 3
      · replace hc0 := cell_later hbk hc0
        replace hc2 := cell_later hbk hc2
        have hbb2 : b < wr.heap.size := by omega
        have hk0 : ∀ o, (wr.alloc o).drew.cell? ⟨b, off, none⟩ = some (.string p0) := fun o => (World.cell?_alloc_lt wr o _ hbb2).trans hc0
        have hk2 : ∀ o, (wr.alloc o).drew.cell? ⟨b, off + 2, none⟩ = some (.string p2) := fun o => (World.cell?_alloc_lt wr o _ hbb2).trans hc2
        go_wp2_with fail
        go_region_held3 (fun w' => w'.cell? ⟨b, off, none⟩ = some (.string p0) ∧ w'.cell? ⟨b, off + 2, none⟩ = some (.string p2)) (first | exact ⟨hc0, hc2⟩ | exact ⟨hk0 _, hk2 _⟩) (first | fail)
        have hbx : Below wr.heap.size wr (wr.alloc (.cells #[.string p0, .string p2, .int .i64 k] 29)).drew := ((Below.refl _ _).alloc (Nat.le_refl _) _).drew
        have hxR : (wr.alloc (.cells #[.string p0, .string p2, .int .i64 k] 29)).drew.rangeAt wr.heap.size 0 (grantE.cells ⟨p0, p2, k⟩) := range_new wr #[.string p0, .string p2, .int .i64 k] 29
        obtain ⟨W2, hW2⟩ : ∃ W, (wr.alloc (.cells #[.string p0, .string p2, .int .i64 k] 29)).drew = W := ⟨_, rfl⟩
        rw [hW2] at hbx hxR
        replace hr0 := cell_later hbx hr0
        replace hf0 := free_later hf0 (by simp; omega) hbx
        replace hr1 := cell_later hbx hr1
        replace hf1 := free_later hf1 (by simp; omega) hbx
        replace hr2 := cell_later hbx hr2
        replace hf2 := free_later hf2 (by simp; omega) hbx
        replace hbF := hbF.trans (hbx.mono hbF.size)
        replace hbk := hbk.trans (hbx.mono hbks)
        have hzz := hbx.size
        have hy0 := hxR 0 _ rfl
        have hy1 := hxR 1 _ rfl
        have hy2 := hxR 2 _ rfl
        simp only [Nat.zero_add] at hy0 hy1 hy2
        clear hk0 hk2 hbx hc0 hc2 hxR
        rename_i hheld; clear hheld
        go_wp2_with fail
        try rw [hW2]
        clear hW2
        refine (i_GrantText ⟨p0, p2, k⟩ _ ⟨by show p0.size ≤ maxLen; unfold maxLen; omega, by show p2.size ≤ maxLen; unfold maxLen; omega, by show _ ≤ (k : Int) ∧ (k : Int) ≤ _; omega⟩).mono ?_
        rintro e w3 ⟨rfl, hb3⟩
        replace hy0 := cell_later hb3 hy0
        replace hy1 := cell_later hb3 hy1
        replace hy2 := cell_later hb3 hy2
        replace hr0 := cell_later hb3 hr0
        replace hf0 := free_later hf0 (by simp; omega) hb3
        replace hr1 := cell_later hb3 hr1
        replace hf1 := free_later hf1 (by simp; omega) hb3
        replace hr2 := cell_later hb3 hr2
        replace hf2 := free_later hf2 (by simp; omega) hb3
        replace hbF := hbF.trans (hb3.mono hbF.size)
        replace hbk := hbk.trans (hb3.mono hbk.size)
        rcases ht : ((grantText ⟨p0, p2, k⟩).toList == s.toList) with _ | _
        · have HN2 : Hid (∀ j : Nat, 1 ≤ j → j < k + 1 → grantO s ≠ some ⟨p0, p2, j⟩) := Lib.hid (fun j h1 h2 he => by
            by_cases hj : j < k
            · exact HN.out j h1 hj he
            · obtain rfl : j = k := by omega
              have := (grant_text HW.out (by omega)).2 he
              rw [this, beq_self_eq_true] at ht
              cases ht)
          go_wp2
          first | (refine ⟨⟨k + 1, by omega, by omega, by go_num, hbk, HN2⟩, ?_⟩; (simp [intOf]; omega)) | (go_roundw; (case rel => first | exact ⟨k + 1, by omega, by omega, by go_num, hbk, HN2⟩ | ((try refine ⟨trivial, ?_⟩); (repeat apply Exists.intro); exact ⟨⟨k + 1, by omega, by omega, by go_num, hbk, HN2⟩, rfl⟩)); (case measure => (simp [intOf]; omega)))
        · have E : Hid (grantO s = some ⟨p0, p2, k⟩) := Lib.hid ((grant_text HW.out (by omega)).1 (by
            rw [beq_iff_eq, ByteArray.toList_eq, ByteArray.toList_eq] at ht
            rw [← ofL_self (grantText ⟨p0, p2, k⟩), ht, ofL_self]))
          have HF := set_cells (w := w3) (g := w.heap.size) [.string p0, .string p2, .int .i64 (k : Int)] 0 (fun j hj => by
            match j, hj with
            | 0, _ => exact ⟨_, hr0⟩
            | 1, _ => exact ⟨_, hr1⟩
            | 2, _ => exact ⟨_, hr2⟩)
          have hbW := below_setCells (Nat.le_refl w.heap.size) [.string p0, .string p2, .int .i64 (k : Int)] 0 hbF
          go_wp2
          change bodyPost _ _ _ _ _ ((w3).setCells w.heap.size 0 [.string p0, .string p2, .int .i64 (k : Int)])
          generalize (w3).setCells w.heap.size 0 [.string p0, .string p2, .int .i64 (k : Int)] = Wf at *
          have qf0 := HF 0 _ rfl
          have qf1 := HF 1 _ rfl
          have qf2 := HF 2 _ rfl
          simp only [Nat.zero_add] at qf0 qf1 qf2
          exact bodyPost_ret (v := .tuple #[.agg #[.string p0, .string p2, .int .i64 (k : Int)], .bool true]) (by simp [results, Tryd.results11, go_sem, qf0, qf1, qf2]) rfl ⟨⟨p0, p2, k⟩, Lib.hid (by unfold grantV; rw [E.out]; rfl), by unfold grantGood; rw [E.out]; rfl, hbW⟩
      · have E : Hid (grantO s = none) := Lib.hid (by
          cases ho : grantO s with
          | none => rfl
          | some y =>
            obtain ⟨q, hq, rfl⟩ := grant_of HW.out ho
            rcases hq with rfl | rfl | rfl
            · exact absurd ho (HN.out 1 (by omega) (by omega))
            · exact absurd ho (HN.out 2 (by omega) (by omega))
            · exact absurd ho (HN.out 3 (by omega) (by omega)))
        have HF := set_cells (w := wr) (g := w.heap.size) [.string ⟨#[]⟩, .string ⟨#[]⟩, .int .i64 0] 0 (fun j hj => by
          match j, hj with
          | 0, _ => exact ⟨_, hr0⟩
          | 1, _ => exact ⟨_, hr1⟩
          | 2, _ => exact ⟨_, hr2⟩)
        have hbW := below_setCells (Nat.le_refl w.heap.size) [.string ⟨#[]⟩, .string ⟨#[]⟩, .int .i64 0] 0 hbF
        go_wp2
        change bodyPost _ _ _ _ _ ((wr).setCells w.heap.size 0 [.string ⟨#[]⟩, .string ⟨#[]⟩, .int .i64 0])
        generalize (wr).setCells w.heap.size 0 [.string ⟨#[]⟩, .string ⟨#[]⟩, .int .i64 0] = Wf at *
        have qf0 := HF 0 _ rfl
        have qf1 := HF 1 _ rfl
        have qf2 := HF 2 _ rfl
        simp only [Nat.zero_add] at qf0 qf1 qf2
        exact bodyPost_ret (v := .tuple #[.agg #[.string ⟨#[]⟩, .string ⟨#[]⟩, .int .i64 0], .bool false]) (by simp [results, Tryd.results11, go_sem, qf0, qf1, qf2]) rfl ⟨⟨⟨#[]⟩, ⟨#[]⟩, 0⟩, Lib.hid (by unfold grantV; rw [E.out]; rfl), by unfold grantGood; rw [E.out]; rfl, hbW⟩
  · have E : Hid (grantO s = none) := Lib.hid (grant_wlen (by rw [hl]; exact h3))
    clear hl hgl
    have HF := set_cells (w := w1) (g := w.heap.size) [.string ⟨#[]⟩, .string ⟨#[]⟩, .int .i64 0] 0 (fun j hj => by
      match j, hj with
      | 0, _ => exact ⟨_, hr0⟩
      | 1, _ => exact ⟨_, hr1⟩
      | 2, _ => exact ⟨_, hr2⟩)
    have hbW := below_setCells (Nat.le_refl w.heap.size) [.string ⟨#[]⟩, .string ⟨#[]⟩, .int .i64 0] 0 hbF
    go_wp2
    change bodyPost _ _ _ _ _ ((w1).setCells w.heap.size 0 [.string ⟨#[]⟩, .string ⟨#[]⟩, .int .i64 0])
    generalize (w1).setCells w.heap.size 0 [.string ⟨#[]⟩, .string ⟨#[]⟩, .int .i64 0] = Wf at *
    have qf0 := HF 0 _ rfl
    have qf1 := HF 1 _ rfl
    have qf2 := HF 2 _ rfl
    simp only [Nat.zero_add] at qf0 qf1 qf2
    exact bodyPost_ret (v := .tuple #[.agg #[.string ⟨#[]⟩, .string ⟨#[]⟩, .int .i64 0], .bool false]) (by simp [results, Tryd.results11, go_sem, qf0, qf1, qf2]) rfl ⟨⟨⟨#[]⟩, ⟨#[]⟩, 0⟩, Lib.hid (by unfold grantV; rw [E.out]; rfl), by unfold grantGood; rw [E.out]; rfl, hbW⟩
end Go.Proofs.YtbblkmnafdmcdaaDoor
