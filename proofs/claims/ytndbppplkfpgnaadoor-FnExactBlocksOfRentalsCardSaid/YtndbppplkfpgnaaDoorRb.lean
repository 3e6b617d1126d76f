/- A block for each rental: both sides. -/
import Derived.Test.YtndbppplkfpgnaaDoorRows
import Derived.Test.YtndbppplkfpgnaaDoorRentOk
import Derived.Test.YtndbppplkfpgnaaDoorSText
import Derived.Test.YtndbppplkfpgnaaDoorCBlock
import Derived.Test.YtndbppplkfpgnaaDoorRightsPush
import Derived.Deep.RegionHeld3
namespace Go.Proofs.YtndbppplkfpgnaaDoor
set_option linter.unusedVariables false
set_option linter.unusedSimpArgs false
set_option linter.unusedSectionVars false
open Go.RowKit
set_option maxRecDepth 100000

def rentKind : ByteArray := ⟨#[114, 101, 110, 116, 97, 108]⟩
def rbBlock (x : DRental) : DBlock := ⟨rentKind, x.fId, rentalText x⟩
def rbL (l : List DRental) : List DBlock := if rentB l then l.map rbBlock else []
def rbCode (l : List DRental) : Int := if rentB l then 0 else 1
theorem rb_bad {l : List DRental} (h : rentB l = false) : rbL l = [] ∧ rbCode l = 1 := by unfold rbL rbCode; rw [h]; exact ⟨rfl, rfl⟩
theorem rb_ok {l : List DRental} (h : rentB l = true) : rbL l = l.map rbBlock ∧ rbCode l = 0 := by unfold rbL rbCode; rw [h]; exact ⟨rfl, rfl⟩
theorem map_step {α β : Type} (f : α → β) {l : List α} {k : Nat} {x : α} (hx : l[k]? = some x) : (l.take (k + 1)).map f = (l.take k).map f ++ [f x] := by rw [List.take_add_one, hx, List.map_append]; rfl
theorem rental_text_eq {x : DRental} (h : okRental x = true) : rentalText x = x.fId ++ ⟨#[32]⟩ ++ x.fItem ++ ⟨#[32]⟩ ++ ofL (textL [x.fDay, x.fMonths, x.fFee]) := by
  have e : rentalText x = x.fId ++ ⟨#[32]⟩ ++ (x.fItem ++ ⟨#[32]⟩ ++ ofL (textL [x.fDay, x.fMonths, x.fFee])) := by unfold rentalText text3; exact if_pos h
  rw [e]
  have hi : ∀ {a b : ByteArray}, a.data.toList = b.data.toList → a = b := fun {a b} h => by rw [← ofL_self a, ← ofL_self b, h]
  apply hi
  simp only [ba_app, List.append_assoc]
theorem rental_text_size {x : DRental} (h : okRental x = true) : (rentalText x).size ≤ 2000 := by
  rw [rental_text_eq h]
  have hn := okRental_names _ _ _ _ _ h
  have hr := okRental_range _ _ _ _ _ h
  have s1 := rental_name_size hn.1
  have s2 := rental_name_size hn.2
  rw [ba_app_size, ba_app_size, ba_app_size, ba_app_size, ofL_size]
  have := textL_len hr (by simp)
  show _ + 1 + _ + 1 + _ ≤ _
  omega
theorem rental_nonneg {x : DRental} (h : okRental x = true) : ∀ n ∈ [x.fDay, x.fMonths, x.fFee], 0 ≤ n ∧ n ≤ 1000000000000 := by
  unfold okRental okRental5 inB at h
  simp only [Bool.and_eq_true, decide_eq_true_eq] at h
  intro n hn
  simp only [List.mem_cons, List.mem_nil_iff, or_false] at hn
  rcases hn with rfl | rfl | rfl <;> omega

set_option maxHeartbeats 4000000 in
theorem s_l21Text (b off : Nat) (x : DRental) (w : World) (hk : okRental x = true) (hc : w.rangeAt b off (rentalE.cells x)) :
    Calls Tryd.prog 15 #[.pointer (some ⟨b, off, none⟩)] w fun e w' => e = .returned (.string (rentalText x)) ∧ Below w.heap.size w w' := by
  have hc0 := hc 0 _ rfl
  have hc1 := hc 1 _ rfl
  have hc2 := hc 2 _ rfl
  have hc3 := hc 3 _ rfl
  have hc4 := hc 4 _ rfl
  simp only [Nat.add_zero] at hc0
  have hbb : b < w.heap.size := World.block_lt_of_cell? w _ hc0
  have hE := rental_text_eq hk
  have hng := rental_nonneg hk
  have hn := okRental_names _ _ _ _ _ hk
  have hr := okRental_range _ _ _ _ _ hk
  have s1 := rental_name_size hn.1
  have s2 := rental_name_size hn.2
  obtain ⟨U, hU⟩ : ∃ U, ofL (textL [x.fDay, x.fMonths, x.fFee]) = U := ⟨_, rfl⟩
  have hz : U.size ≤ 1280 := by rw [← hU, ofL_size]; exact textL_len hr (by simp)
  rw [hU] at hE
  have HE := Lib.hid hE
  have HC : Hid (∀ W A c, Rd intE W A 3 [x.fDay, x.fMonths, x.fFee] → Calls Tryd.prog 23 #[.slice A 3 c] W fun e w' => e = .returned (.string U) ∧ Below W.heap.size W w') := Lib.hid (fun W A c h1 => by
    have h := s_l01List A 3 c [x.fDay, x.fMonths, x.fFee] W h1 (by omega) (by omega) hng
    rw [hU] at h
    exact h)
  have q1 := fun W => run_string_add_sum (P := Tryd.prog) W x.fId ⟨#[32]⟩ (by show _ + 1 ≤ _; omega)
  have q2 := fun W => run_string_add_sum (P := Tryd.prog) W (x.fId ++ ⟨#[32]⟩) x.fItem (by rw [ba_app_size]; show _ + 1 + _ ≤ _; omega)
  have q3 := fun W => run_string_add_sum (P := Tryd.prog) W (x.fId ++ ⟨#[32]⟩ ++ x.fItem) ⟨#[32]⟩ (by rw [ba_app_size, ba_app_size]; show _ + 1 + _ + 1 ≤ _; omega)
  have q4 := fun W => run_string_add_sum (P := Tryd.prog) W (x.fId ++ ⟨#[32]⟩ ++ x.fItem ++ ⟨#[32]⟩) U (by rw [ba_app_size, ba_app_size, ba_app_size]; show _ + 1 + _ + 1 + _ ≤ _; omega)
  have hk0 : ∀ o, (w.alloc o).drew.cell? ⟨b, off, none⟩ = _ := fun o => (World.cell?_alloc_lt w o _ hbb).trans hc0
  have hk1 : ∀ o, (w.alloc o).drew.cell? ⟨b, off + 1, none⟩ = _ := fun o => (World.cell?_alloc_lt w o _ hbb).trans hc1
  have hk2 : ∀ o, (w.alloc o).drew.cell? ⟨b, off + 2, none⟩ = _ := fun o => (World.cell?_alloc_lt w o _ hbb).trans hc2
  have hk3 : ∀ o, (w.alloc o).drew.cell? ⟨b, off + 3, none⟩ = _ := fun o => (World.cell?_alloc_lt w o _ hbb).trans hc3
  have hk4 : ∀ o, (w.alloc o).drew.cell? ⟨b, off + 4, none⟩ = _ := fun o => (World.cell?_alloc_lt w o _ hbb).trans hc4
  have hbF := Below.refl w.heap.size w
  clear hk hn hr hU hc hE hng
  go_enter Tryd.func15, Tryd.ntmps15
  go_wp2_with fail
  go_region_held3 (fun w' => w'.cell? ⟨b, off, none⟩ = some (.string x.fId) ∧ w'.cell? ⟨b, off + 1, none⟩ = some (.string x.fItem) ∧ w'.cell? ⟨b, off + 2, none⟩ = some (.int .i64 x.fDay) ∧ w'.cell? ⟨b, off + 3, none⟩ = some (.int .i64 x.fMonths) ∧ w'.cell? ⟨b, off + 4, none⟩ = some (.int .i64 x.fFee) ∧ Below w.heap.size w w')
    (first | exact ⟨hc0, hc1, hc2, hc3, hc4, hbF.drew⟩ | exact ⟨hk0 _, hk1 _, hk2 _, hk3 _, hk4 _, (hbF.alloc hbF.size _).drew⟩ | (go_split_ands; exact ⟨cell_later hb2 (by assumption), cell_later hb2 (by assumption), cell_later hb2 (by assumption), cell_later hb2 (by assumption), cell_later hb2 (by assumption), Below.trans (by assumption) (hb2.mono (Below.size (by assumption)))⟩) | (go_split_ands; exact ⟨by assumption, by assumption, by assumption, by assumption, by assumption, by assumption⟩))
    (first | (go_at_call 23; refine (HC.out _ _ _ (Rd.lit1 intE (l := [x.fDay, x.fMonths, x.fFee]) (w := w.drew) (cs := #[.int .i64 x.fDay, .int .i64 x.fMonths, .int .i64 x.fFee]) rfl rfl rfl)).mono ?_; rintro e w2 ⟨rfl, hb2⟩))
  rename_i hh
  obtain ⟨_, _, _, _, _, hbE⟩ := hh
  clear q1 q2 q3 q4
  go_wp2
  go_ret
  exact ⟨by rw [HE.out]; rfl, hbE⟩

theorem Tryd.info_BlockR : (Tryd.prog.info? 42).map (fun i => (i.zero, i.size, i.bytes)) = some (some (.agg #[.string ⟨#[]⟩, .string ⟨#[]⟩, .string ⟨#[]⟩]), 3, 48) := by kernel_rfl
set_option maxHeartbeats 4000000 in
theorem S_BlocksOfRentals (A : Option Addr) (n c : Nat) (l : List DRental) (w : World) (hr : Rd rentalE w A n l) (hn : n ≤ 1048576) (hg : ∀ x ∈ l, x.good) (hsum : sumRental l ≤ 1048576) :
    Calls Tryd.prog 5 #[.slice A n c] w (RetLC blockE 42 (rbL l) (rbCode l) w) := by
  have Hl := Lib.hid hr.1
  obtain ⟨j0, gi, gz0, gz1, gz2⟩ := info_parts Tryd.info_BlockR
  have GZ := Lib.hid (And.intro gz0 gz1); clear gz0 gz1
  have hok := s_l21Ok A n c l w hr (by unfold maxLen; omega) hg
  rcases hB : rentB l with _ | _
  · have E := Lib.hid (rb_bad hB)
    rw [hB] at hok
    clear hB
    go_enter Tryd.func5, Tryd.ntmps5
    go_wp2_with fail
    refine hok.mono ?_
    rintro e w1 ⟨rfl, hb1⟩
    clear hok
    go_wp2
    go_ret2
    exact RetLC.nil E.out.1 E.out.2 hb1
  · have E := Lib.hid (rb_ok hB)
    obtain ⟨hm, h12⟩ := rent_mem hB
    have HM := Lib.hid hm
    have hn12 : n ≤ 12 := by have := Hl.out; omega
    rw [hB] at hok
    clear hB hm h12
    go_enter Tryd.func5, Tryd.ntmps5
    go_wp2_with fail
    refine hok.mono ?_
    rintro e w1 ⟨rfl, hb1⟩
    clear hok
    have hz1 := hb1.size
    have hr1 := hr.below hb1
    have hgl0 : GL blockE 42 w1.heap.size (w1.alloc (.cells #[] 42)) (.slice (some ⟨w1.heap.size, 0, none⟩) 0 0) [] := GL.mk0 (Nat.le_refl _)
    have hb0 : Below w1.heap.size w1 (w1.alloc (.cells #[] 42)) := (Below.refl _ _).alloc (Nat.le_refl _) _
    go_wp2_with fail
    go_loopw [4, 5] (fun v i wr => ∃ (k : Nat) (r : List DBlock) (A' : Option Addr) (c' : Nat), k ≤ n ∧ i = .int .i64 k ∧ v = .slice A' k c' ∧ GL blockE 42 w1.heap.size wr (.slice A' k c') r ∧ Below w1.heap.size w1 wr ∧ Hid (r = (l.take k).map rbBlock)) (fun _ i _ => n - (intOf i).toNat)
    case atStart => exact ⟨0, [], _, _, Nat.zero_le _, rfl, rfl, hgl0, hb0, Lib.hid (by simp)⟩
    case round =>
      clear hb0 hgl0
      obtain ⟨k, r, A', c', hk, rfl, rfl, hgl, hb, HR⟩ := hrel
      by_cases hlt : k < n
      · obtain ⟨b, off, x, hA, hx, hc⟩ := hr1.get hlt
        subst hA
        have hok := HM.out x (List.mem_of_getElem? hx)
        have HK : Hid (r ++ [rbBlock x] = (l.take (k + 1)).map rbBlock) := Lib.hid (by rw [map_step rbBlock hx, HR.out])
        have hx1 := hc 0 _ rfl
        have hcw := range_below (B := 0) hc hb
        have hxw := hcw 0 _ rfl
        simp only [rentalE, Nat.add_zero] at hx1 hxw
        have HT := Lib.hid (s_l21Text b (off + k * 5) x wr.drew hok hcw)
        obtain ⟨U, hU⟩ : ∃ U, rentalText x = U := ⟨_, rfl⟩
        have HRB : Hid (rbBlock x = ⟨rentKind, x.fId, U⟩) := Lib.hid (by unfold rbBlock; rw [hU])
        rw [hU] at HT
        have hglD := hgl.drew
        have hbD := hb.drew
        clear hU hc hcw hx hok hgl hb
        have hxd : wr.drew.cell? ⟨b, off + k * 5, none⟩ = some (.string x.fId) := hxw
        clear hxw
        go_wp2_with fail
        go_region_held3 (fun w' => w'.cell? ⟨b, off + k * 5, none⟩ = some (.string x.fId))
          (first | exact hxd | exact cell_later hb7 hx1 | exact cell_later hb2 (by assumption) | exact cell_later ((Below.refl _ _).alloc (Nat.le_refl _) _) (by assumption) | assumption)
          (first | (go_at_call 15; refine HT.out.mono ?_; rintro e w2 ⟨rfl, hb2⟩; have hgl2 := hglD.below hb2; have hbW2 := hbD.trans (hb2.mono hbD.size); have hlo2 := hgl2.lt; have hbz2 := hbW2.size)
                 | (refine step_pushO blockE rfl _ _ 24 rfl w1.heap.size 42 j0 _ 48 Tryd.underlying24 gi GZ.out.1 GZ.out.2 gz2 rfl A' k c' r ⟨rentKind, x.fId, U⟩ rfl (hgl2.alloc _) w2.heap.size rfl (range_new _ _ _) (by omega) (by decide) (by simp; omega) ?_; intro A7 c7 w7 hgl7 ht7 _; have hb7 := Below.touch (hbW2.alloc hbz2 (.cells #[.string rentKind, .string x.fId, .string U] 42)) ht7 (fun q hq => (hlo2 q hq).1) (by simp; omega)))
        go_wp2
        rw [← HRB.out] at hgl7
        first | (refine ⟨⟨k + 1, r ++ [rbBlock x], A7, c7, by omega, by go_num, rfl, hgl7, hb7, HK⟩, ?_⟩; (simp [intOf]; omega)) | (go_roundw; (case rel => first | exact ⟨k + 1, r ++ [rbBlock x], A7, c7, by omega, by go_num, rfl, hgl7, hb7, HK⟩ | ((try refine ⟨trivial, ?_⟩); (repeat apply Exists.intro); exact ⟨⟨k + 1, r ++ [rbBlock x], A7, c7, by omega, by go_num, rfl, hgl7, hb7, HK⟩, rfl⟩)); (case measure => (simp [intOf]; omega)))
      · have F : Hid (rbL l = r) := Lib.hid (by rw [E.out.1, HR.out, List.take_of_length_le (by have := Hl.out; omega)])
        have hbF := hb1.trans (hb.mono hz1)
        have hgz := hgl.mono hz1
        go_wp2
        go_ret2
        exact RetLC.mk hgz (by omega) F.out E.out.2 hbF

set_option maxHeartbeats 4000000 in
theorem I_BlocksOfRentals (A : Option Addr) (n c : Nat) (l : List DRental) (w : World) (hr : Rd rentalE w A n l) (hn : n ≤ 1048576) (hg : ∀ x ∈ l, x.good) (hsum : sumRental l ≤ 1048576) (hL : LibW w) :
    Calls Tryd.prog 7 #[.slice A n c] w (RetLC blockE 42 (rbL l) (rbCode l) w) := by
  have Hl := Lib.hid hr.1
  obtain ⟨j0, gi, gz0, gz1, gz2⟩ := info_parts Tryd.info_BlockR
  have GZ := Lib.hid (And.intro gz0 gz1); clear gz0 gz1
  have hok := i_ValidRentals A n c l w hr (by unfold maxLen; omega) hg
  rcases hB : rentB l with _ | _
  · have E := Lib.hid (rb_bad hB)
    rw [hB] at hok
    clear hB
    go_enter Tryd.func7, Tryd.ntmps7
    go_wp2_with fail
    refine hok.mono ?_
    rintro e w1 ⟨rfl, hb1⟩
    clear hok
    go_wp2
    go_ret2
    exact RetLC.nil E.out.1 E.out.2 hb1
  · have E := Lib.hid (rb_ok hB)
    obtain ⟨hm, h12⟩ := rent_mem hB
    have HM := Lib.hid hm
    have hn12 : n ≤ 12 := by have := Hl.out; omega
    rw [hB] at hok
    clear hB hm h12
    go_enter Tryd.func7, Tryd.ntmps7
    go_wp2_with fail
    refine hok.mono ?_
    rintro e w1 ⟨rfl, hb1⟩
    clear hok
    have hz1 := hb1.size
    have hr1 := hr.below hb1
    have hL1 := Lib.hid (hL.below hb1)
    have hgl0 : GL blockE 42 w1.heap.size (w1.alloc (.cells #[] 42)) (.slice (some ⟨w1.heap.size, 0, none⟩) 0 0) [] := GL.mk0 (Nat.le_refl _)
    have hb0 : Below w1.heap.size w1 (w1.alloc (.cells #[] 42)) := (Below.refl _ _).alloc (Nat.le_refl _) _
    go_wp2_with fail
    go_loopw [4, 13] (fun v i wr => ∃ (k : Nat) (r : List DBlock) (A' : Option Addr) (c' : Nat), k ≤ n ∧ i = .int .i64 k ∧ v = .slice A' k c' ∧ GL blockE 42 w1.heap.size wr (.slice A' k c') r ∧ Below w1.heap.size w1 wr ∧ Hid (r = (l.take k).map rbBlock)) (fun _ i _ => n - (intOf i).toNat)
    case atStart => exact ⟨0, [], _, _, Nat.zero_le _, rfl, rfl, hgl0, hb0, Lib.hid (by simp)⟩
    case round =>
      clear hb0 hgl0
      obtain ⟨k, r, A', c', hk, rfl, rfl, hgl, hb, HR⟩ := hrel
      by_cases hlt : k < n
      · obtain ⟨b, off, x, hA, hx, hc⟩ := hr1.get hlt
        subst hA
        have hok := HM.out x (List.mem_of_getElem? hx)
        have hgx := hg x (List.mem_of_getElem? hx)
        have HK : Hid (r ++ [rbBlock x] = (l.take (k + 1)).map rbBlock) := Lib.hid (by rw [map_step rbBlock hx, HR.out])
        have hcw := range_below (B := 0) hc hb
        have hc0 := hcw 0 _ rfl
        have hc1 := hcw 1 _ rfl
        have hc2 := hcw 2 _ rfl
        have hc3 := hcw 3 _ rfl
        have hc4 := hcw 4 _ rfl
        simp only [rentalE, Nat.add_zero] at hc0 hc1 hc2 hc3 hc4
        have hn := okRental_names _ _ _ _ _ hok
        have s1 := rental_name_size hn.1
        have s2 := rental_name_size hn.2
        have hU2 := rental_text_size hok
        have hbw : Below wr.heap.size wr (wr.alloc (.cells #[.string x.fId, .string x.fItem, .int .i64 x.fDay, .int .i64 x.fMonths, .int .i64 x.fFee] 38)) := (Below.refl _ _).alloc (Nat.le_refl _) _
        have hxR := range_new wr #[.string x.fId, .string x.fItem, .int .i64 x.fDay, .int .i64 x.fMonths, .int .i64 x.fFee] 38
        obtain ⟨wq, hWq⟩ : ∃ wq, wr.alloc (.cells #[.string x.fId, .string x.fItem, .int .i64 x.fDay, .int .i64 x.fMonths, .int .i64 x.fFee] 38) = wq := ⟨_, rfl⟩
        rw [hWq] at hbw hxR
        have hglq := (hgl.below hbw).drew
        have hbQ := (hb.trans (hbw.mono hb.size)).drew
        have hy0 := hxR 0 _ rfl
        have hy1 := hxR 1 _ rfl
        have hy2 := hxR 2 _ rfl
        have hy3 := hxR 3 _ rfl
        have hy4 := hxR 4 _ rfl
        simp only [Nat.zero_add] at hy0 hy1 hy2 hy3 hy4
        have hlq : wr.heap.size < wq.heap.size := by rw [← hWq]; simp
        obtain ⟨bq, hbqe⟩ : ∃ q, wr.heap.size = q := ⟨_, rfl⟩
        have hnq : ¬ (Value.ownBlock (.slice A' k c') = some bq) := by rw [← hbqe]; intro e; exact absurd (hgl.lt _ e).2 (Nat.lt_irrefl _)
        rw [hbqe] at hy0 hy1 hy2 hy3 hy4
        have HT := Lib.hid (i_RentalText x wq.drew (by omega) (by omega) (hL1.out.below hbQ))
        obtain ⟨U, hU⟩ : ∃ U, rentalText x = U := ⟨_, rfl⟩
        have HRB : Hid (rbBlock x = ⟨rentKind, x.fId, U⟩) := Lib.hid (by unfold rbBlock; rw [hU])
        rw [hU] at HT hU2
        have hd0 : wq.drew.cell? ⟨bq, 0, none⟩ = some (.string x.fId) := hy0
        have hd1 : wq.drew.cell? ⟨bq, 1, none⟩ = some (.string x.fItem) := hy1
        have hd2 : wq.drew.cell? ⟨bq, 2, none⟩ = some (.int .i64 x.fDay) := hy2
        have hd3 : wq.drew.cell? ⟨bq, 3, none⟩ = some (.int .i64 x.fMonths) := hy3
        have hd4 : wq.drew.cell? ⟨bq, 4, none⟩ = some (.int .i64 x.fFee) := hy4
        clear hU hc hcw hx hok hgl hb hbw hxR hn hgx
        go_wp2_with fail
        try rw [hbqe]
        try rw [hWq]
        clear hWq hbqe hc0 hc1 hc2 hc3 hc4
        go_region_held3 (fun w' => w'.cell? ⟨bq, 0, none⟩ = some (.string x.fId) ∧ w'.cell? ⟨bq, 1, none⟩ = some (.string x.fItem) ∧ w'.cell? ⟨bq, 2, none⟩ = some (.int .i64 x.fDay) ∧ w'.cell? ⟨bq, 3, none⟩ = some (.int .i64 x.fMonths) ∧ w'.cell? ⟨bq, 4, none⟩ = some (.int .i64 x.fFee))
          (first | exact ⟨hd0, hd1, hd2, hd3, hd4⟩ | (go_split_ands; exact ⟨cell_later hb2 (by assumption), cell_later hb2 (by assumption), cell_later hb2 (by assumption), cell_later hb2 (by assumption), cell_later hb2 (by assumption)⟩) | (go_split_ands; exact ⟨cell_later ((Below.refl _ _).alloc (Nat.le_refl _) _) (by assumption), cell_later ((Below.refl _ _).alloc (Nat.le_refl _) _) (by assumption), cell_later ((Below.refl _ _).alloc (Nat.le_refl _) _) (by assumption), cell_later ((Below.refl _ _).alloc (Nat.le_refl _) _) (by assumption), cell_later ((Below.refl _ _).alloc (Nat.le_refl _) _) (by assumption)⟩) | (go_split_ands; exact ⟨by assumption, by assumption, by assumption, by assumption, by assumption⟩) | (go_split_ands; exact ⟨touch_cell ht7 hnq (by assumption), touch_cell ht7 hnq (by assumption), touch_cell ht7 hnq (by assumption), touch_cell ht7 hnq (by assumption), touch_cell ht7 hnq (by assumption)⟩))
          (first | (go_at_call 18; refine HT.out.mono ?_; rintro e w2 ⟨rfl, hb2⟩; have hgl2 := hglq.below hb2; have hbW2 := hbQ.trans (hb2.mono hbQ.size); have hlo2 := hgl2.lt; have hbz2 := hbW2.size)
                 | (refine step_pushO blockE rfl _ _ 24 rfl w1.heap.size 42 j0 _ 48 Tryd.underlying24 gi GZ.out.1 GZ.out.2 gz2 rfl A' k c' r ⟨rentKind, x.fId, U⟩ rfl (hgl2.alloc _) w2.heap.size rfl (range_new _ _ _) (by omega) (by decide) (by simp; omega) ?_; intro A7 c7 w7 hgl7 ht7 _; have hb7 := Below.touch (hbW2.alloc hbz2 (.cells #[.string rentKind, .string x.fId, .string U] 42)) ht7 (fun q hq => (hlo2 q hq).1) (by simp; omega)))
        go_wp2
        rw [← HRB.out] at hgl7
        first | (refine ⟨⟨k + 1, r ++ [rbBlock x], A7, c7, by omega, by go_num, rfl, hgl7, hb7, HK⟩, ?_⟩; (simp [intOf]; omega)) | (go_roundw; (case rel => first | exact ⟨k + 1, r ++ [rbBlock x], A7, c7, by omega, by go_num, rfl, hgl7, hb7, HK⟩ | ((try refine ⟨trivial, ?_⟩); (repeat apply Exists.intro); exact ⟨⟨k + 1, r ++ [rbBlock x], A7, c7, by omega, by go_num, rfl, hgl7, hb7, HK⟩, rfl⟩)); (case measure => (simp [intOf]; omega)))
      · have F : Hid (rbL l = r) := Lib.hid (by rw [E.out.1, HR.out, List.take_of_length_le (by have := Hl.out; omega)])
        have hbF := hb1.trans (hb.mono hz1)
        have hgz := hgl.mono hz1
        go_wp2
        go_ret2
        exact RetLC.mk hgz (by omega) F.out E.out.2 hbF

end Go.Proofs.YtndbppplkfpgnaaDoor
