/- Visits: valid ones, their text, and that it is read back. -/
import Derived.Test.YtbgmhlbcohdobaaGreatDoorRows
import Derived.Test.YtbgmhlbcohdobaaGreatDoorWords
import Derived.Test.YtbgmhlbcohdobaaGreatDoorWords3
import Derived.Test.YtbgmhlbcohdobaaGreatDoorCVisit
import Derived.Test.YtbgmhlbcohdobaaGreatDoorRes
import Derived.Test.YtbgmhlbcohdobaaGreatDoorRng
import Derived.Test.YtbgmhlbcohdobaaGreatDoorListTx
import Derived.Test.YtbgmhlbcohdobaaGreatDoorBasic
import Derived.Deep.RegionHeld3
namespace Go.Proofs.YtbgmhlbcohdobaaGreatDoor
set_option linter.unusedVariables false
set_option linter.unusedSimpArgs false
set_option linter.unusedSectionVars false
open Go.RowKit

def okVisit (x : DVisit) : Bool := inB x.fDay 0 100000 && (nameB x.fWho && (inB x.fKind 1 4 && inB x.fAmount 0 10000000))
structure OkV (x : DVisit) : Prop where
  d0 : 0 ≤ x.fDay
  d1 : x.fDay ≤ 100000
  who : nameB x.fWho = true
  k : 1 ≤ x.fKind ∧ x.fKind ≤ 4
  a0 : 0 ≤ x.fAmount
  a1 : x.fAmount ≤ 10000000
theorem OkV.ok {x : DVisit} (h : OkV x) : okVisit x = true := by
  unfold okVisit
  rw [inB_true h.d0 h.d1, h.who, inB_true h.k.1 h.k.2, inB_true h.a0 h.a1]
  rfl
theorem OkV.size {x : DVisit} (h : OkV x) : x.fWho.size ≤ 10 := by
  have := h.who
  unfold nameB at this
  rw [Bool.and_eq_true, Bool.and_eq_true] at this
  have := of_decide_eq_true this.2.2
  omega
def visitText (x : DVisit) : ByteArray := vText x.fDay x.fWho x.fKind x.fAmount
theorem visit_text_le {x : DVisit} (h : OkV x) : (visitText x).size ≤ 100 := by
  unfold visitText vText
  have h1 := itoa_small' (n := x.fDay) (by have := h.d0; have := h.d1; omega)
  have h2 := itoa_small' (n := x.fAmount) (by have := h.a0; have := h.a1; omega)
  have h3 := (kind_word h.k).2.2
  have h4 := h.size
  rw [ba_app_size, ba_app_size, ba_app_size, ba_app_size, ba_app_size, ba_app_size, ofL_size, ofL_size]
  show _ + 1 + _ + 1 + _ + 1 + _ ≤ _
  omega
theorem visit_words {x : DVisit} (h : OkV x) : wordsB (visitText x) = [ofL (Lib.itoa x.fDay), x.fWho, kindN x.fKind, ofL (Lib.itoa x.fAmount)] := by
  have h1 := vText_words (d := x.fDay) (a := x.fAmount) (s := x.fWho) (k := x.fKind) (by have := h.d0; have := h.d1; omega) (by have := h.a0; have := h.a1; omega) (name_noblank h.who) h.k
  unfold wordsL at h1
  unfold wordsB cutsB
  have e : ((cutsL 32 (visitText x).data.toList).map ofL).filter (fun p => !p.data.toList.isEmpty) = ((cutsL 32 (visitText x).data.toList).filter fun p => !p.isEmpty).map ofL := by
    rw [List.filter_map]
    congr 1
  rw [e]
  unfold visitText
  rw [h1]
  simp only [List.map_cons, List.map_nil, ofL_self]

set_option maxHeartbeats 1000000 in
theorem s_l22One (b off : Nat) (x : DVisit) (w : World) (hx : OkV x) (hc : w.rangeAt b off (visitE.cells x)) :
    Calls Tryz.prog 46 #[.pointer (some ⟨b, off, none⟩)] w fun e w' => e = .returned (.bool true) ∧ w = w' := by
  have hc0 := hc 0 _ rfl
  have hc1 := hc 1 _ rfl
  have hc2 := hc 2 _ rfl
  have hc3 := hc 3 _ rfl
  rw [Nat.add_zero] at hc0
  have hz := hx.size
  have HX := Lib.hid hx
  clear hc hx
  go_enter Tryz.func46, Tryz.ntmps46
  go_wp2_with fail
  refine (s_l21Day _ _).mono ?_
  rintro e w' ⟨rfl, rfl⟩
  rw [inB_true HX.out.d0 HX.out.d1]
  go_wp2_with fail
  refine (s_l01Name x.fWho _ (by unfold maxLen; omega)).mono ?_
  rintro e w' ⟨rfl, rfl⟩
  rw [HX.out.who]
  go_wp2_with fail
  refine (s_l22Kind _ _).mono ?_
  rintro e w' ⟨rfl, rfl⟩
  rw [inB_true HX.out.k.1 HX.out.k.2]
  go_wp2_with fail
  refine (s_l21Money _ _).mono ?_
  rintro e w' ⟨rfl, rfl⟩
  rw [inB_true HX.out.a0 HX.out.a1]
  go_wp2
  go_ret
  exact ⟨rfl, rfl⟩

set_option maxHeartbeats 1000000 in
theorem i_validVisit (x : DVisit) (w : World) (hx : OkV x) :
    Calls Tryz.prog 25 #[.agg #[.int .i64 x.fDay, .string x.fWho, .int .i64 x.fKind, .int .i64 x.fAmount]] w (RetB true w) := by
  have hz := hx.size
  have HX := Lib.hid hx
  clear hx
  go_enter Tryz.func25, Tryz.ntmps25
  go_wp2_with fail
  refine (i_isRentDay _ _).mono ?_
  rintro e w' ⟨rfl, rfl⟩
  rw [inB_true HX.out.d0 HX.out.d1]
  go_wp2_with fail
  refine (i_IsName x.fWho _ (by unfold maxLen; omega)).mono ?_
  rintro e w' ⟨rfl, rfl⟩
  rw [HX.out.who]
  go_wp2_with fail
  refine (i_within _ _ _ _).mono ?_
  rintro e w' ⟨rfl, rfl⟩
  rw [inB_true HX.out.k.1 HX.out.k.2]
  go_wp2_with fail
  refine (i_isMoney _ _).mono ?_
  rintro e w' ⟨rfl, rfl⟩
  rw [inB_true HX.out.a0 HX.out.a1]
  go_wp2
  go_ret
  exact ⟨rfl, by (repeat (first | exact Below.refl _ _ | assumption | refine Below.drew ?_ | refine Below.alloc ?_ (by first | omega | (simp; done) | (simp; omega) | exact Below.size (by assumption)) _ | refine Below.setCell ?_ (by first | omega | (simp; done) | (simp; omega)) _))⟩

theorem pick_kind (n : Int) : pickD n [⟨#[]⟩, kRepair, kRental, kSale, kTune] = kindN n := by
  unfold pickD kindN
  by_cases h0 : 0 ≤ n
  · rw [if_pos h0]
    obtain ⟨k, rfl⟩ := Int.eq_ofNat_of_zero_le h0
    match k with
    | 0 => rfl
    | 1 => rfl
    | 2 => rfl
    | 3 => rfl
    | 4 => rfl
    | k + 5 => rw [if_neg (by omega), if_neg (by omega), if_neg (by omega), if_neg (by omega)]; rfl
  · rw [if_neg h0, if_neg (by omega), if_neg (by omega), if_neg (by omega), if_neg (by omega)]
theorem i_VisitKind (n : Int) (w : World) :
    Calls Tryz.prog 12 #[.int .i64 n] w fun e w' => e = .returned (.string (kindN n)) ∧ Below w.heap.size w w' := by
  go_enter Tryz.func12, Tryz.ntmps12
  go_wp2_with fail
  refine (i_pick n _ 5 5 [⟨#[]⟩, kRepair, kRental, kSale, kTune] _ (Rd.lit1 strE rfl rfl rfl) (by omega)).mono ?_
  rintro e w' ⟨rfl, rfl⟩
  go_wp2
  go_ret
  exact ⟨by rw [pick_kind]; rfl, by (repeat (first | exact Below.refl _ _ | assumption | refine Below.drew ?_ | refine Below.alloc ?_ (by first | omega | (simp; done) | (simp; omega) | exact Below.size (by assumption)) _ | refine Below.setCell ?_ (by first | omega | (simp; done) | (simp; omega)) _))⟩

set_option maxRecDepth 100000 in
set_option maxHeartbeats 2000000 in
theorem i_VisitText (x : DVisit) (w : World) (hx : OkV x) (hL : LibW w) :
    Calls Tryz.prog 11 #[.agg #[.int .i64 x.fDay, .string x.fWho, .int .i64 x.fKind, .int .i64 x.fAmount]] w fun e w' => e = .returned (.string (visitText x)) ∧ Below w.heap.size w w' := by
  have hR := range_new w #[.int .i64 x.fDay, .string x.fWho, .int .i64 x.fKind, .int .i64 x.fAmount] 35
  have hb0 : Below w.heap.size w (w.alloc (.cells #[.int .i64 x.fDay, .string x.fWho, .int .i64 x.fKind, .int .i64 x.fAmount] 35)) := (Below.refl _ _).alloc (Nat.le_refl _) _
  obtain ⟨W0, hW0⟩ : ∃ W0, w.alloc (.cells #[.int .i64 x.fDay, .string x.fWho, .int .i64 x.fKind, .int .i64 x.fAmount] 35) = W0 := ⟨_, rfl⟩
  rw [hW0] at hR hb0
  have hc0 := hR 0 _ rfl
  have hc1 := hR 1 _ rfl
  have hc2 := hR 2 _ rfl
  have hc3 := hR 3 _ rfl
  simp only [Nat.zero_add] at hc0 hc1 hc2 hc3
  clear hR
  have HX := Lib.hid hx
  go_enter Tryz.func11, Tryz.ntmps11
  go_wp2_with fail
  try rw [hW0]
  clear hW0
  refine (i_validVisit x _ hx).mono ?_
  rintro e w1 ⟨rfl, hb⟩
  clear hx
  replace hc0 := cell_later hb hc0
  replace hc1 := cell_later hb hc1
  replace hc2 := cell_later hb hc2
  replace hc3 := cell_later hb hc3
  have hbF := hb0.trans (hb.mono hb0.size)
  have E : Hid (visitText x = ofL (Lib.itoa x.fDay) ++ ⟨#[32]⟩ ++ x.fWho ++ ⟨#[32]⟩ ++ kindN x.fKind ++ ⟨#[32]⟩ ++ ofL (Lib.itoa x.fAmount)) := Lib.hid rfl
  have r0 := HX.out.d0; have r1 := HX.out.d1; have r2 := HX.out.a0; have r3 := HX.out.a1
  have z1 : (ofL (Lib.itoa x.fDay)).size ≤ 19 := by rw [ofL_size]; exact itoa_small' (by omega)
  have z4 : (ofL (Lib.itoa x.fAmount)).size ≤ 19 := by rw [ofL_size]; exact itoa_small' (by omega)
  have z2 := HX.out.size
  have z3 := (kind_word HX.out.k).2.2
  have HD : Hid (∀ W, LibW W → Calls Tryz.prog 29 #[.int .i64 x.fDay] W fun e w' => e = .returned (.string (ofL (Lib.itoa x.fDay))) ∧ Below W.heap.size W w') := Lib.hid fun W h => i_Decimal x.fDay W (by omega) h
  have HA : Hid (∀ W, LibW W → Calls Tryz.prog 29 #[.int .i64 x.fAmount] W fun e w' => e = .returned (.string (ofL (Lib.itoa x.fAmount))) ∧ Below W.heap.size W w') := Lib.hid fun W h => i_Decimal x.fAmount W (by omega) h
  have HK : Hid (∀ W, Calls Tryz.prog 12 #[.int .i64 x.fKind] W fun e w' => e = .returned (.string (kindN x.fKind)) ∧ Below W.heap.size W w') := Lib.hid fun W => i_VisitKind x.fKind W
  obtain ⟨D, hD⟩ : ∃ D, ofL (Lib.itoa x.fDay) = D := ⟨_, rfl⟩
  obtain ⟨M, hM⟩ : ∃ M, ofL (Lib.itoa x.fAmount) = M := ⟨_, rfl⟩
  obtain ⟨K, hK⟩ : ∃ K, kindN x.fKind = K := ⟨_, rfl⟩
  rw [hD] at HD z1 E
  rw [hM] at HA z4 E
  rw [hK] at HK z3 E
  clear hD hM hK r0 r1 r2 r3 hb hb0
  have q1 := fun W => run_string_add_sum (P := Tryz.prog) W D ⟨#[32]⟩ (by show _ + 1 ≤ _; omega)
  have q2 := fun W => run_string_add_sum (P := Tryz.prog) W (D ++ ⟨#[32]⟩) x.fWho (by rw [ba_app_size]; show _ + 1 + _ ≤ _; omega)
  have q3 := fun W => run_string_add_sum (P := Tryz.prog) W (D ++ ⟨#[32]⟩ ++ x.fWho) ⟨#[32]⟩ (by rw [ba_app_size, ba_app_size]; show _ + 1 + _ + 1 ≤ _; omega)
  have q4 := fun W => run_string_add_sum (P := Tryz.prog) W (D ++ ⟨#[32]⟩ ++ x.fWho ++ ⟨#[32]⟩) K (by rw [ba_app_size, ba_app_size, ba_app_size]; show _ + 1 + _ + 1 + _ ≤ _; omega)
  have q5 := fun W => run_string_add_sum (P := Tryz.prog) W (D ++ ⟨#[32]⟩ ++ x.fWho ++ ⟨#[32]⟩ ++ K) ⟨#[32]⟩ (by rw [ba_app_size, ba_app_size, ba_app_size, ba_app_size]; show _ + 1 + _ + 1 + _ + 1 ≤ _; omega)
  have q6 := fun W => run_string_add_sum (P := Tryz.prog) W (D ++ ⟨#[32]⟩ ++ x.fWho ++ ⟨#[32]⟩ ++ K ++ ⟨#[32]⟩) M (by rw [ba_app_size, ba_app_size, ba_app_size, ba_app_size, ba_app_size]; show _ + 1 + _ + 1 + _ + 1 + _ ≤ _; omega)
  go_wp2_with fail
  let S : World → Prop := fun w' => w'.cell? ⟨w.heap.size, 0, none⟩ = some (.int .i64 x.fDay) ∧ w'.cell? ⟨w.heap.size, 1, none⟩ = some (.string x.fWho) ∧ w'.cell? ⟨w.heap.size, 2, none⟩ = some (.int .i64 x.fKind) ∧ w'.cell? ⟨w.heap.size, 3, none⟩ = some (.int .i64 x.fAmount) ∧ Below w.heap.size w w'
  have hS : S (World.drew w1) := ⟨hc0, hc1, hc2, hc3, (hbF).drew⟩
  have hne : Nonempty (Wd S) := ⟨⟨_, hS⟩⟩
  have qc0 : ∀ t : Wd S, t.w.cell? ⟨w.heap.size, 0, none⟩ = some (.int .i64 x.fDay) := fun t => t.h.1
  have qc1 : ∀ t : Wd S, t.w.cell? ⟨w.heap.size, 1, none⟩ = some (.string x.fWho) := fun t => t.h.2.1
  have qc2 : ∀ t : Wd S, t.w.cell? ⟨w.heap.size, 2, none⟩ = some (.int .i64 x.fKind) := fun t => t.h.2.2.1
  have qc3 : ∀ t : Wd S, t.w.cell? ⟨w.heap.size, 3, none⟩ = some (.int .i64 x.fAmount) := fun t => t.h.2.2.2.1
  have Q9 : Hid (∀ (t : Wd S) (w' : World), Below t.w.heap.size t.w w' → S w') := Lib.hid (fun t w' h => ⟨cell_later h t.h.1, cell_later h t.h.2.1, cell_later h t.h.2.2.1, cell_later h t.h.2.2.2.1, t.h.2.2.2.2.trans (h.mono t.h.2.2.2.2.size)⟩)
  have QE : Hid (∀ w', S w' → w'.cell? ⟨w.heap.size, 0, none⟩ = some (.int .i64 x.fDay) ∧ w'.cell? ⟨w.heap.size, 1, none⟩ = some (.string x.fWho) ∧ w'.cell? ⟨w.heap.size, 2, none⟩ = some (.int .i64 x.fKind) ∧ w'.cell? ⟨w.heap.size, 3, none⟩ = some (.int .i64 x.fAmount) ∧ Below w.heap.size w w') := Lib.hid (fun w' h => h)
  refine wp_region_class S (by kernel_rfl) (by kernel_rfl) hS ?_
  clear_value S
  repeat (go_big_quiet_step ((first | (go_at_call 12; exact class_call _ (HK.out _) (fun e w' h => ⟨h.1, Q9.out _ _ h.2⟩)) | (with_reducible show Calls _ 29 #[.int .i64 x.fDay] _ _; exact class_call _ (HD.out _ (hL.below (QE.out _ (Wd.h _)).2.2.2.2)) (fun e w' h => ⟨h.1, Q9.out _ _ h.2⟩)) | (with_reducible show Calls _ 29 #[.int .i64 x.fAmount] _ _; exact class_call _ (HA.out _ (hL.below (QE.out _ (Wd.h _)).2.2.2.2)) (fun e w' h => ⟨h.1, Q9.out _ _ h.2⟩)))))
  refine wpQuiet_nil ?_
  rintro _ ⟨⟨w1, hw1⟩, rfl⟩
  have hE := QE.out _ hw1
  have hbE := hE.2.2.2.2
  clear hE
  try dsimp only
  clear hw1 hS hne Q9 QE qc0 qc1 qc2 qc3
  clear q1 q2 q3 q4 q5 q6
  go_wp2
  go_ret
  exact ⟨by rw [E.out]; rfl, hbE⟩

set_option maxRecDepth 100000 in
set_option maxHeartbeats 4000000 in
theorem i_ReadVisit (x : DVisit) (w : World) (hx : OkV x) (hL : LibW w) :
    Calls Tryz.prog 10 #[.string (visitText x)] w fun e w' => e = .returned (.tuple #[.agg #[.int .i64 x.fDay, .string x.fWho, .int .i64 x.fKind, .int .i64 x.fAmount], .bool true]) ∧ Below w.heap.size w w' := by
  have HT : Hid (∀ k : Int, 1 ≤ k → k ≤ 4 → visitText ⟨x.fDay, x.fWho, k, x.fAmount⟩ = visitText x → k = x.fKind) := Lib.hid fun k h0 h1 e => vText_kind (d := x.fDay) (a := x.fAmount) (s := x.fWho) (by have := hx.d0; have := hx.d1; omega) (by have := hx.a0; have := hx.a1; omega) (name_noblank hx.who) ⟨h0, h1⟩ hx.k e
  have HZ := Lib.hid (visit_text_le hx)
  have HWd := Lib.hid (visit_words hx)
  have HN1 : Hid (numL (ofL (Lib.itoa x.fDay)).data.toList = some x.fDay) := Lib.hid (by rw [ofL_data]; exact num_itoa (by have := hx.d0; have := hx.d1; omega))
  have HN2 : Hid (numL (ofL (Lib.itoa x.fAmount)).data.toList = some x.fAmount) := Lib.hid (by rw [ofL_data]; exact num_itoa (by have := hx.a0; have := hx.a1; omega))
  have HZ1 : Hid ((ofL (Lib.itoa x.fDay)).size ≤ 19 ∧ (ofL (Lib.itoa x.fAmount)).size ≤ 19) := Lib.hid ⟨by rw [ofL_size]; exact itoa_small' (by have := hx.d0; have := hx.d1; omega), by rw [ofL_size]; exact itoa_small' (by have := hx.a0; have := hx.a1; omega)⟩
  have HV : Hid (∀ (k : Int) W, 1 ≤ k → k ≤ 4 → LibW W → Calls Tryz.prog 11 #[.agg #[.int .i64 x.fDay, .string x.fWho, .int .i64 k, .int .i64 x.fAmount]] W fun e w' => e = .returned (.string (visitText ⟨x.fDay, x.fWho, k, x.fAmount⟩)) ∧ Below W.heap.size W w') := Lib.hid fun k W h0 h1 h2 => i_VisitText ⟨x.fDay, x.fWho, k, x.fAmount⟩ W ⟨hx.d0, hx.d1, hx.who, ⟨h0, h1⟩, hx.a0, hx.a1⟩ h2
  have HK := Lib.hid hx.k
  clear hx
  obtain ⟨T, hT⟩ : ∃ T, visitText x = T := ⟨_, rfl⟩
  rw [hT] at HT HZ HWd ⊢
  have HTT := Lib.hid hT
  clear hT
  obtain ⟨D, hD⟩ : ∃ D, ofL (Lib.itoa x.fDay) = D := ⟨_, rfl⟩
  obtain ⟨M, hM⟩ : ∃ M, ofL (Lib.itoa x.fAmount) = M := ⟨_, rfl⟩
  obtain ⟨K, hK⟩ : ∃ K, kindN x.fKind = K := ⟨_, rfl⟩
  rw [hD] at HWd HN1 HZ1
  rw [hM] at HWd HN2 HZ1
  rw [hK] at HWd
  clear hD hM hK
  have hR := range_new w #[.int .i64 0, .string ⟨#[]⟩, .int .i64 0, .int .i64 0] 35
  have hfr := fun j => new_free w #[.int .i64 0, .string ⟨#[]⟩, .int .i64 0, .int .i64 0] 35 j
  have hb0 : Below w.heap.size w (w.alloc (.cells #[.int .i64 0, .string ⟨#[]⟩, .int .i64 0, .int .i64 0] 35)) := (Below.refl _ _).alloc (Nat.le_refl _) _
  obtain ⟨W0, hW0⟩ : ∃ W0, w.alloc (.cells #[.int .i64 0, .string ⟨#[]⟩, .int .i64 0, .int .i64 0] 35) = W0 := ⟨_, rfl⟩
  have hsz : W0.heap.size = w.heap.size + 1 := by rw [← hW0]; simp
  rw [hW0] at hR hfr hb0
  go_enter Tryz.func10, Tryz.ntmps10
  go_wp2_with fail
  try rw [hW0]
  clear hW0
  refine (i_SplitWords T W0 (by have := HZ.out; omega) (hL.below hb0)).mono ?_
  rintro e w1 ⟨A, n, c, hl, hn, ho, rfl, hb⟩
  have hrd := Rd.of_own ho hl
  obtain rfl : n = 4 := by rw [← hl, HWd.out]; rfl
  rw [HWd.out] at hrd
  obtain ⟨b, off, p0, hAe, hp0, hcs0⟩ := hrd.get (k := 0) (by omega)
  subst hAe
  obtain ⟨b1, off1, p1, hAe1, hp1, hcs1⟩ := hrd.get (k := 1) (by omega)
  cases hAe1
  obtain ⟨b3, off3, p3, hAe3, hp3, hcs3⟩ := hrd.get (k := 3) (by omega)
  cases hAe3
  simp only [List.getElem?_cons_zero, List.getElem?_cons_succ, Option.some.injEq] at hp0 hp1 hp3
  subst hp0 hp1 hp3
  have hc0 := hcs0 0 (.string D) rfl
  have hc1 := hcs1 0 (.string x.fWho) rfl
  have hc3 := hcs3 0 (.string M) rfl
  simp only [strE, Nat.mul_one, Nat.zero_mul, Nat.add_zero] at hc0 hc1 hc3
  have hbF := hb0.trans (hb.mono hb0.size)
  have hsz1 := hb.size
  rw [hsz] at hsz1
  have hR1 := range_below (B := 0) hR hb
  have hfr1 : ∀ j, w1.frozen? ⟨w.heap.size, j, none⟩ = false := fun j => free_later (hfr j) (by simp; omega) hb
  clear hcs0 hcs1 hcs3 hrd ho hl hR hfr hn
  go_wp2_with fail
  refine (i_ReadDecimal D w1 (by have := HZ1.out; omega) (hL.below hbF)).mono ?_
  rintro e w2 hq
  obtain ⟨rfl, hb2⟩ : e = .returned (.tuple #[.int .i64 x.fDay, .bool true]) ∧ Below w1.heap.size w1 w2 := by
    unfold numV numOk at hq
    rw [HN1.out] at hq
    exact hq
  clear hq
  replace hc1 := cell_later hb2 hc1
  replace hc3 := cell_later hb2 hc3
  replace hR1 := range_below (B := 0) hR1 hb2
  replace hfr1 : ∀ j, w2.frozen? ⟨w.heap.size, j, none⟩ = false := fun j => free_later (hfr1 j) (by simp; omega) hb2
  replace hbF := hbF.trans (hb2.mono hbF.size)
  have hz2 := hb2.size
  clear hc0 hb2
  go_wp2_with fail
  refine (i_ReadDecimal M w2 (by have := HZ1.out; omega) (hL.below hbF)).mono ?_
  rintro e w3 hq
  obtain ⟨rfl, hb3⟩ : e = .returned (.tuple #[.int .i64 x.fAmount, .bool true]) ∧ Below w2.heap.size w2 w3 := by
    unfold numV numOk at hq
    rw [HN2.out] at hq
    exact hq
  clear hq
  replace hc1 := cell_later hb3 hc1
  replace hR1 := range_below (B := 0) hR1 hb3
  replace hfr1 : ∀ j, w3.frozen? ⟨w.heap.size, j, none⟩ = false := fun j => free_later (hfr1 j) (by simp; omega) hb3
  replace hbF := hbF.trans (hb3.mono hbF.size)
  have hz3 := hb3.size
  have HC1 := Lib.hid hc1
  have HR1 := Lib.hid hR1
  have HF1 := Lib.hid hfr1
  have HBF := Lib.hid hbF
  have hz4 : w.heap.size < w3.heap.size := by omega
  clear hc3 hb3 hc1 hR1 hfr1 hbF hz2 hz3 hsz1 hsz hb hb0
  go_wp2_with fail
  go_loopw [9] (fun i wr => ∃ k : Nat, 1 ≤ k ∧ (k : Int) ≤ x.fKind ∧ i = .int .i64 k ∧ Below w3.heap.size w3 wr) (fun i _ => 5 - (intOf i).toNat)
  case atStart => exact ⟨1, by omega, HK.out.1, rfl, Below.refl _ _⟩
  case round =>
    obtain ⟨k, hk1, hk2, rfl, hbr⟩ := hrel
    have hk4 : k ≤ 4 := by have := HK.out; omega
    have hc1 := cell_later hbr HC1.out
    have hR1 := range_below (B := 0) HR1.out hbr
    have hr0 := hR1 0 _ rfl
    have hr1 := hR1 1 _ rfl
    have hr2 := hR1 2 _ rfl
    have hr3 := hR1 3 _ rfl
    simp only [Nat.zero_add] at hr0 hr1 hr2 hr3
    have hf0 := free_later (HF1.out 0) (by simp; omega) hbr
    have hf1 := free_later (HF1.out 1) (by simp; omega) hbr
    have hf2 := free_later (HF1.out 2) (by simp; omega) hbr
    have hf3 := free_later (HF1.out 3) (by simp; omega) hbr
    have hbF := HBF.out.trans (hbr.mono HBF.out.size)
    have hzr := hbr.size
    clear hR1
    have hXR := range_new wr #[.int .i64 x.fDay, .string x.fWho, .int .i64 (k : Int), .int .i64 x.fAmount] 35
    have hba : Below wr.heap.size wr (wr.alloc (.cells #[.int .i64 x.fDay, .string x.fWho, .int .i64 (k : Int), .int .i64 x.fAmount] 35)) := (Below.refl _ _).alloc (Nat.le_refl _) _
    obtain ⟨W1, hW1⟩ : ∃ W1, wr.alloc (.cells #[.int .i64 x.fDay, .string x.fWho, .int .i64 (k : Int), .int .i64 x.fAmount] 35) = W1 := ⟨_, rfl⟩
    rw [hW1] at hXR hba
    have hx0 := hXR 0 _ rfl
    have hx1 := hXR 1 _ rfl
    have hx2 := hXR 2 _ rfl
    have hx3 := hXR 3 _ rfl
    simp only [Nat.zero_add] at hx0 hx1 hx2 hx3
    clear hXR
    go_wp2_with fail
    try rw [hW1]
    clear hW1
    replace hr0 := cell_later hba hr0
    replace hr1 := cell_later hba hr1
    replace hr2 := cell_later hba hr2
    replace hr3 := cell_later hba hr3
    replace hf0 := free_later hf0 (by simp; omega) hba
    replace hf1 := free_later hf1 (by simp; omega) hba
    replace hf2 := free_later hf2 (by simp; omega) hba
    replace hf3 := free_later hf3 (by simp; omega) hba
    replace hbF := hbF.trans (hba.mono hbF.size)
    replace hbr := hbr.trans (hba.mono hbr.size)
    have hz5 := hba.size
    clear hc1 hba
    obtain ⟨U, hU⟩ : ∃ U, visitText ⟨x.fDay, x.fWho, k, x.fAmount⟩ = U := ⟨_, rfl⟩
    have hcall := HV.out (k : Int) W1 (by omega) (by omega) (hL.below hbF)
    rw [hU] at hcall
    have HU := Lib.hid hU; clear hU
    refine hcall.mono ?_
    rintro e w5 ⟨rfl, hb5⟩
    clear hcall
    replace hr0 := cell_later hb5 hr0
    replace hr1 := cell_later hb5 hr1
    replace hr2 := cell_later hb5 hr2
    replace hr3 := cell_later hb5 hr3
    replace hf0 := free_later hf0 (by simp; omega) hb5
    replace hf1 := free_later hf1 (by simp; omega) hb5
    replace hf2 := free_later hf2 (by simp; omega) hb5
    replace hf3 := free_later hf3 (by simp; omega) hb5
    replace hx0 := cell_later hb5 hx0
    replace hx1 := cell_later hb5 hx1
    replace hx2 := cell_later hb5 hx2
    replace hx3 := cell_later hb5 hx3
    replace hbF := hbF.trans (hb5.mono hbF.size)
    replace hbr := hbr.trans (hb5.mono hbr.size)
    clear hb5 hz5
    by_cases hq : (k : Int) = x.fKind
    · obtain rfl : U = T := by
        rw [← HU.out, ← HTT.out, hq]
      rw [hq] at hx2
      clear hq
      have HF := set_cells (w := w5) (g := w.heap.size) [.int .i64 x.fDay, .string x.fWho, .int .i64 x.fKind, .int .i64 x.fAmount] 0 (fun j hj => by
        match j, hj with
        | 0, _ => exact ⟨_, hr0⟩
        | 1, _ => exact ⟨_, hr1⟩
        | 2, _ => exact ⟨_, hr2⟩
        | 3, _ => exact ⟨_, hr3⟩)
      have hbW := below_setCells (Nat.le_refl w.heap.size) [.int .i64 x.fDay, .string x.fWho, .int .i64 x.fKind, .int .i64 x.fAmount] 0 hbF
      clear hk2
      go_wp2
      change bodyPost _ _ _ _ _ (w5.setCells w.heap.size 0 [.int .i64 x.fDay, .string x.fWho, .int .i64 x.fKind, .int .i64 x.fAmount])
      generalize w5.setCells w.heap.size 0 [.int .i64 x.fDay, .string x.fWho, .int .i64 x.fKind, .int .i64 x.fAmount] = Wf at *
      have qf0 := HF 0 _ rfl
      have qf1 := HF 1 _ rfl
      have qf2 := HF 2 _ rfl
      have qf3 := HF 3 _ rfl
      simp only [Nat.zero_add] at qf0 qf1 qf2 qf3
      exact bodyPost_ret (v := .tuple #[.agg #[.int .i64 x.fDay, .string x.fWho, .int .i64 x.fKind, .int .i64 x.fAmount], .bool true]) (by simp [results, Tryz.results10, go_sem, qf0, qf1, qf2, qf3]) rfl ⟨rfl, hbW⟩
    · have ht0 : ¬ U.toList = T.toList := fun h => hq (HT.out k (by omega) (by omega) (by
        rw [HU.out]
        rw [ByteArray.toList_eq, ByteArray.toList_eq] at h
        exact ba_ext h))
      have ht : (U.toList == T.toList) = false := by rw [beq_eq_false_iff_ne]; exact ht0
      have hk3 : ((k + 1 : Nat) : Int) ≤ x.fKind := by omega
      clear hq ht0
      go_wp2
      first | (refine ⟨⟨k + 1, by omega, by omega, by go_num, hbr⟩, ?_⟩; (simp [intOf]; omega)) | (go_roundw; (case rel => first | exact ⟨k + 1, by omega, by omega, by go_num, hbr⟩ | ((try refine ⟨trivial, ?_⟩); (repeat apply Exists.intro); exact ⟨⟨k + 1, by omega, by omega, by go_num, hbr⟩, rfl⟩)); (case measure => (simp [intOf]; omega)))

end Go.Proofs.YtbgmhlbcohdobaaGreatDoor
