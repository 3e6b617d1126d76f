/- Reading: Good. -/
import Derived.Test.YtfogginmdglagaaGreatDoorRows
import Derived.Test.YtfogginmdglagaaGreatDoorIList
import Derived.Test.YtfogginmdglagaaGreatDoorCGood
import Derived.Test.YtfogginmdglagaaGreatDoorRes
import Derived.Test.YtfogginmdglagaaGreatDoorRng
import Derived.Deep.RegionHeld3
namespace Go.Proofs.YtfogginmdglagaaGreatDoor
set_option linter.unusedVariables false
set_option linter.unusedSimpArgs false
set_option linter.unusedSectionVars false
open Go.RowKit

def okGood (x : DGood) : Bool := nameB x.fId && (inB x.fCount 0 100000 && (inB x.fLeast 0 100000 && inB x.fPrice 0 10000000))
def goodO (s : ByteArray) : Option DGood := match namedL 3 s.data.toList with
  | some (a, [n0, n1, n2]) => if okGood ⟨ofL a, n0, n1, n2⟩ then some ⟨ofL a, n0, n1, n2⟩ else none
  | _ => none
def goodV (s : ByteArray) : DGood := (goodO s).getD ⟨⟨#[]⟩, 0, 0, 0⟩
def goodOk (s : ByteArray) : Bool := (goodO s).isSome

set_option maxHeartbeats 1000000 in
theorem s_l26One (b off : Nat) (x : DGood) (w : World) (hg : x.fId.size ≤ maxLen) (hc : w.rangeAt b off (goodE.cells x)) :
    Calls Tryz.prog 45 #[.pointer (some ⟨b, off, none⟩)] w fun e w' => e = .returned (.bool (okGood x)) ∧ w = w' := by
  have hc0 := hc 0 _ rfl
  have hc1 := hc 1 _ rfl
  have hc2 := hc 2 _ rfl
  have hc3 := hc 3 _ rfl
  rw [Nat.add_zero] at hc0
  clear hc
  go_enter Tryz.func45, Tryz.ntmps45
  go_wp2_with fail
  refine (s_l01Name x.fId _ hg).mono ?_
  rintro e w' ⟨rfl, rfl⟩
  rcases h0 : nameB x.fId with _ | _
  · have E : Hid (okGood x = false) := Lib.hid (by unfold okGood; rw [h0]; rfl)
    clear h0
    go_wp2
    go_ret
    exact ⟨ret_bool E.out.symm, rfl⟩
  · have H0 := Lib.hid h0; clear h0
    go_wp2_with fail
    refine (s_l26Count _ _).mono ?_
    rintro e w' ⟨rfl, rfl⟩
    rcases h1 : inB x.fCount 0 100000 with _ | _
    · have E : Hid (okGood x = false) := Lib.hid (by unfold okGood; rw [H0.out, h1]; rfl)
      clear h1
      go_wp2
      go_ret
      exact ⟨ret_bool E.out.symm, rfl⟩
    · have H1 := Lib.hid h1; clear h1
      go_wp2_with fail
      refine (s_l26Count _ _).mono ?_
      rintro e w' ⟨rfl, rfl⟩
      rcases h2 : inB x.fLeast 0 100000 with _ | _
      · have E : Hid (okGood x = false) := Lib.hid (by unfold okGood; rw [H0.out, H1.out, h2]; rfl)
        clear h2
        go_wp2
        go_ret
        exact ⟨ret_bool E.out.symm, rfl⟩
      · have H2 := Lib.hid h2; clear h2
        go_wp2_with fail
        refine (s_l21Money _ _).mono ?_
        rintro e w' ⟨rfl, rfl⟩
        go_wp2
        go_ret
        exact ⟨ret_bool (by unfold okGood; rw [H0.out, H1.out, H2.out]; rfl), rfl⟩

set_option maxHeartbeats 1000000 in
theorem i_validGood (x : DGood) (w : World) (hg : x.fId.size ≤ maxLen) :
    Calls Tryz.prog 26 #[.agg #[.string x.fId, .int .i64 x.fCount, .int .i64 x.fLeast, .int .i64 x.fPrice]] w (RetB (okGood x) w) := by
  go_enter Tryz.func26, Tryz.ntmps26
  go_wp2_with fail
  refine (i_IsName x.fId _ hg).mono ?_
  rintro e w' ⟨rfl, rfl⟩
  rcases h0 : nameB x.fId with _ | _
  · have E : Hid (okGood x = false) := Lib.hid (by unfold okGood; rw [h0]; rfl)
    clear h0
    go_wp2
    go_ret
    exact ⟨ret_bool E.out.symm, by (repeat (first | exact Below.refl _ _ | assumption | refine Below.drew ?_ | refine Below.alloc ?_ (by first | omega | (simp; done) | (simp; omega) | exact Below.size (by assumption)) _ | refine Below.setCell ?_ (by first | omega | (simp; done) | (simp; omega)) _))⟩
  · have H0 := Lib.hid h0; clear h0
    go_wp2_with fail
    refine (i_isPieces _ _).mono ?_
    rintro e w' ⟨rfl, rfl⟩
    rcases h1 : inB x.fCount 0 100000 with _ | _
    · have E : Hid (okGood x = false) := Lib.hid (by unfold okGood; rw [H0.out, h1]; rfl)
      clear h1
      go_wp2
      go_ret
      exact ⟨ret_bool E.out.symm, by (repeat (first | exact Below.refl _ _ | assumption | refine Below.drew ?_ | refine Below.alloc ?_ (by first | omega | (simp; done) | (simp; omega) | exact Below.size (by assumption)) _ | refine Below.setCell ?_ (by first | omega | (simp; done) | (simp; omega)) _))⟩
    · have H1 := Lib.hid h1; clear h1
      go_wp2_with fail
      refine (i_isPieces _ _).mono ?_
      rintro e w' ⟨rfl, rfl⟩
      rcases h2 : inB x.fLeast 0 100000 with _ | _
      · have E : Hid (okGood x = false) := Lib.hid (by unfold okGood; rw [H0.out, H1.out, h2]; rfl)
        clear h2
        go_wp2
        go_ret
        exact ⟨ret_bool E.out.symm, by (repeat (first | exact Below.refl _ _ | assumption | refine Below.drew ?_ | refine Below.alloc ?_ (by first | omega | (simp; done) | (simp; omega) | exact Below.size (by assumption)) _ | refine Below.setCell ?_ (by first | omega | (simp; done) | (simp; omega)) _))⟩
      · have H2 := Lib.hid h2; clear h2
        go_wp2_with fail
        refine (i_isMoney _ _).mono ?_
        rintro e w' ⟨rfl, rfl⟩
        go_wp2
        go_ret
        exact ⟨ret_bool (by unfold okGood; rw [H0.out, H1.out, H2.out]; rfl), by (repeat (first | exact Below.refl _ _ | assumption | refine Below.drew ?_ | refine Below.alloc ?_ (by first | omega | (simp; done) | (simp; omega) | exact Below.size (by assumption)) _ | refine Below.setCell ?_ (by first | omega | (simp; done) | (simp; omega)) _))⟩

set_option maxRecDepth 100000 in
set_option maxHeartbeats 2000000 in
theorem I_ReadGood (s : ByteArray) (w : World) (hs : s.size ≤ 1048576) (hL : LibW w) :
    Calls Tryz.prog 14 #[.string s] w fun e w' => ∃ x : DGood, Hid (x = goodV s) ∧ e = .returned (.tuple #[.agg #[.string x.fId, .int .i64 x.fCount, .int .i64 x.fLeast, .int .i64 x.fPrice], .bool (goodOk s)]) ∧ Below w.heap.size w w' := by
  have hR := range_new w #[.string ⟨#[]⟩, .int .i64 0, .int .i64 0, .int .i64 0] 27
  have hfr := fun j => new_free w #[.string ⟨#[]⟩, .int .i64 0, .int .i64 0, .int .i64 0] 27 j
  have hb0 : Below w.heap.size w (w.alloc (.cells #[.string ⟨#[]⟩, .int .i64 0, .int .i64 0, .int .i64 0] 27)) := (Below.refl _ _).alloc (Nat.le_refl _) _
  obtain ⟨W0, hW0⟩ : ∃ W0, w.alloc (.cells #[.string ⟨#[]⟩, .int .i64 0, .int .i64 0, .int .i64 0] 27) = W0 := ⟨_, rfl⟩
  have hsz : W0.heap.size = w.heap.size + 1 := by rw [← hW0]; simp
  rw [hW0] at hR hfr hb0
  go_enter Tryz.func14, Tryz.ntmps14
  go_wp2_with fail
  try rw [hW0]
  clear hW0
  refine (i_readNamed s 3 _ hs (by omega) (hL.below hb0)).mono ?_
  rintro e w1 (⟨hno, x, A, n, c, rfl, hb⟩ | ⟨a, ns, A, c, hsome, hlen, rfl, hgl, hb⟩)
  · have E : Hid (goodO s = none) := Lib.hid (by unfold goodO; rw [hno])
    have hbF := hb0.trans (hb.mono hb0.size)
    have hR1 := range_below (B := 0) hR hb
    have hr0 := hR1 0 _ rfl
    have hr1 := hR1 1 _ rfl
    have hr2 := hR1 2 _ rfl
    have hr3 := hR1 3 _ rfl
    have hf0 := free_later (hfr 0) (by simp; omega) hb
    have hf1 := free_later (hfr 1) (by simp; omega) hb
    have hf2 := free_later (hfr 2) (by simp; omega) hb
    have hf3 := free_later (hfr 3) (by simp; omega) hb
    simp only [Nat.zero_add] at hr0 hr1 hr2 hr3
    clear hR hfr hR1
    clear hno
    have HF := set_cells (w := w1) (g := w.heap.size) [.string ⟨#[]⟩, .int .i64 0, .int .i64 0, .int .i64 0] 0 (fun j hj => by
      match j, hj with
      | 0, _ => exact ⟨_, hr0⟩
      | 1, _ => exact ⟨_, hr1⟩
      | 2, _ => exact ⟨_, hr2⟩
      | 3, _ => exact ⟨_, hr3⟩)
    have hbW := below_setCells (Nat.le_refl w.heap.size) [.string ⟨#[]⟩, .int .i64 0, .int .i64 0, .int .i64 0] 0 (hbF)
    go_wp2
    change bodyPost _ _ _ _ _ (w1.setCells w.heap.size 0 [.string ⟨#[]⟩, .int .i64 0, .int .i64 0, .int .i64 0])
    generalize w1.setCells w.heap.size 0 [.string ⟨#[]⟩, .int .i64 0, .int .i64 0, .int .i64 0] = Wf at *
    have qf0 := HF 0 _ rfl
    have qf1 := HF 1 _ rfl
    have qf2 := HF 2 _ rfl
    have qf3 := HF 3 _ rfl
    simp only [Nat.zero_add] at qf0 qf1 qf2 qf3
    exact bodyPost_ret (v := .tuple #[.agg #[.string ⟨#[]⟩, .int .i64 0, .int .i64 0, .int .i64 0], .bool false]) (by simp [results, Tryz.results14, go_sem, qf0, qf1, qf2, qf3]) rfl ⟨⟨⟨#[]⟩, 0, 0, 0⟩, Lib.hid (by unfold goodV; rw [E.out]; rfl), by unfold goodOk; rw [E.out]; rfl, hbW⟩
  · obtain ⟨n0, n1, n2, hns⟩ : ∃ n0 n1 n2, ns = [n0, n1, n2] := by
      match ns, hlen with
      | [n0, n1, n2], _ => exact ⟨n0, n1, n2, rfl⟩
    subst hns
    have HO : Hid (goodO s = if okGood ⟨ofL a, n0, n1, n2⟩ then some ⟨ofL a, n0, n1, n2⟩ else none) := Lib.hid (by unfold goodO; rw [hsome])
    have HNA := Lib.hid (ofL_size a)
    have hal : a.length ≤ 1048576 := named_size hs hsome
    obtain ⟨g, rfl, hg1, hg2, hcs⟩ := hgl.ints (by omega)
    have hn0 := hcs 0 _ rfl
    have hn1 := hcs 1 _ rfl
    have hn2 := hcs 2 _ rfl
    have hbF := hb0.trans (hb.mono hb0.size)
    have hsz1 := hb.size
    rw [hsz] at hsz1 hg1
    have hR1 := range_below (B := 0) hR hb
    have hr0 := hR1 0 _ rfl
    have hr1 := hR1 1 _ rfl
    have hr2 := hR1 2 _ rfl
    have hr3 := hR1 3 _ rfl
    have hf0 := free_later (hfr 0) (by simp; omega) hb
    have hf1 := free_later (hfr 1) (by simp; omega) hb
    have hf2 := free_later (hfr 2) (by simp; omega) hb
    have hf3 := free_later (hfr 3) (by simp; omega) hb
    simp only [Nat.zero_add] at hr0 hr1 hr2 hr3
    clear hR hfr hR1
    clear hcs hgl hsome hlen hb
    have hk0 : ∀ o, (w1.alloc o).drew.cell? ⟨g, 0, none⟩ = some (.int .i64 n0) := fun o => (World.cell?_alloc_lt w1 o _ hg2).trans hn0
    have hk1 : ∀ o, (w1.alloc o).drew.cell? ⟨g, 1, none⟩ = some (.int .i64 n1) := fun o => (World.cell?_alloc_lt w1 o _ hg2).trans hn1
    have hk2 : ∀ o, (w1.alloc o).drew.cell? ⟨g, 2, none⟩ = some (.int .i64 n2) := fun o => (World.cell?_alloc_lt w1 o _ hg2).trans hn2
    go_wp2_with fail
    go_region_held3 (fun w' => w'.cell? ⟨g, 0, none⟩ = some (.int .i64 n0) ∧ w'.cell? ⟨g, 1, none⟩ = some (.int .i64 n1) ∧ w'.cell? ⟨g, 2, none⟩ = some (.int .i64 n2)) (first | exact ⟨hn0, hn1, hn2⟩ | exact ⟨hk0 _, hk1 _, hk2 _⟩) (first | fail)
    have hbx : Below w1.heap.size w1 (w1.alloc (.cells #[.string (ofL a), .int .i64 n0, .int .i64 n1, .int .i64 n2] 27)).drew := ((Below.refl _ _).alloc (Nat.le_refl _) _).drew
    have hxR : (w1.alloc (.cells #[.string (ofL a), .int .i64 n0, .int .i64 n1, .int .i64 n2] 27)).drew.rangeAt w1.heap.size 0 (goodE.cells ⟨ofL a, n0, n1, n2⟩) := range_new w1 #[.string (ofL a), .int .i64 n0, .int .i64 n1, .int .i64 n2] 27
    obtain ⟨W2, hW2⟩ : ∃ W, (w1.alloc (.cells #[.string (ofL a), .int .i64 n0, .int .i64 n1, .int .i64 n2] 27)).drew = W := ⟨_, rfl⟩
    rw [hW2] at hbx hxR
    replace hr0 := cell_later hbx hr0
    replace hf0 := free_later hf0 (by simp; omega) hbx
    replace hr1 := cell_later hbx hr1
    replace hf1 := free_later hf1 (by simp; omega) hbx
    replace hr2 := cell_later hbx hr2
    replace hf2 := free_later hf2 (by simp; omega) hbx
    replace hr3 := cell_later hbx hr3
    replace hf3 := free_later hf3 (by simp; omega) hbx
    replace hbF := hbF.trans (hbx.mono hbF.size)
    have hzz := hbx.size
    have hy0 := hxR 0 _ rfl
    have hy1 := hxR 1 _ rfl
    have hy2 := hxR 2 _ rfl
    have hy3 := hxR 3 _ rfl
    simp only [Nat.zero_add] at hy0 hy1 hy2 hy3
    clear hn0 hn1 hn2 hk0 hk1 hk2 hbx
    rename_i hheld; clear hheld
    go_wp2_with fail
    try rw [hW2]
    clear hW2
    refine (i_validGood ⟨ofL a, n0, n1, n2⟩ _ ?_).mono ?_
    · show (ofL a).size ≤ maxLen; rw [HNA.out]; unfold maxLen; omega
    rintro e w3 ⟨rfl, hb3⟩
    replace hr0 := cell_later hb3 hr0
    replace hf0 := free_later hf0 (by simp; omega) hb3
    replace hy0 := cell_later hb3 hy0
    replace hr1 := cell_later hb3 hr1
    replace hf1 := free_later hf1 (by simp; omega) hb3
    replace hy1 := cell_later hb3 hy1
    replace hr2 := cell_later hb3 hr2
    replace hf2 := free_later hf2 (by simp; omega) hb3
    replace hy2 := cell_later hb3 hy2
    replace hr3 := cell_later hb3 hr3
    replace hf3 := free_later hf3 (by simp; omega) hb3
    replace hy3 := cell_later hb3 hy3
    replace hbF := hbF.trans (hb3.mono hbF.size)
    rcases hq : okGood ⟨ofL a, n0, n1, n2⟩ with _ | _
    · have E : Hid (goodO s = none) := Lib.hid (by rw [HO.out, hq]; rfl)
      clear hq
      have HF := set_cells (w := w3) (g := w.heap.size) [.string ⟨#[]⟩, .int .i64 0, .int .i64 0, .int .i64 0] 0 (fun j hj => by
        match j, hj with
        | 0, _ => exact ⟨_, hr0⟩
        | 1, _ => exact ⟨_, hr1⟩
        | 2, _ => exact ⟨_, hr2⟩
        | 3, _ => exact ⟨_, hr3⟩)
      have hbW := below_setCells (Nat.le_refl w.heap.size) [.string ⟨#[]⟩, .int .i64 0, .int .i64 0, .int .i64 0] 0 (hbF)
      go_wp2
      change bodyPost _ _ _ _ _ (w3.setCells w.heap.size 0 [.string ⟨#[]⟩, .int .i64 0, .int .i64 0, .int .i64 0])
      generalize w3.setCells w.heap.size 0 [.string ⟨#[]⟩, .int .i64 0, .int .i64 0, .int .i64 0] = Wf at *
      have qf0 := HF 0 _ rfl
      have qf1 := HF 1 _ rfl
      have qf2 := HF 2 _ rfl
      have qf3 := HF 3 _ rfl
      simp only [Nat.zero_add] at qf0 qf1 qf2 qf3
      exact bodyPost_ret (v := .tuple #[.agg #[.string ⟨#[]⟩, .int .i64 0, .int .i64 0, .int .i64 0], .bool false]) (by simp [results, Tryz.results14, go_sem, qf0, qf1, qf2, qf3]) rfl ⟨⟨⟨#[]⟩, 0, 0, 0⟩, Lib.hid (by unfold goodV; rw [E.out]; rfl), by unfold goodOk; rw [E.out]; rfl, hbW⟩
    · have E : Hid (goodO s = some ⟨ofL a, n0, n1, n2⟩) := Lib.hid (by rw [HO.out, hq]; rfl)
      clear hq
      have HF := set_cells (w := w3) (g := w.heap.size) [.string (ofL a), .int .i64 n0, .int .i64 n1, .int .i64 n2] 0 (fun j hj => by
        match j, hj with
        | 0, _ => exact ⟨_, hr0⟩
        | 1, _ => exact ⟨_, hr1⟩
        | 2, _ => exact ⟨_, hr2⟩
        | 3, _ => exact ⟨_, hr3⟩)
      have hbW := below_setCells (Nat.le_refl w.heap.size) [.string (ofL a), .int .i64 n0, .int .i64 n1, .int .i64 n2] 0 (hbF)
      go_wp2
      change bodyPost _ _ _ _ _ (w3.setCells w.heap.size 0 [.string (ofL a), .int .i64 n0, .int .i64 n1, .int .i64 n2])
      generalize w3.setCells w.heap.size 0 [.string (ofL a), .int .i64 n0, .int .i64 n1, .int .i64 n2] = Wf at *
      have qf0 := HF 0 _ rfl
      have qf1 := HF 1 _ rfl
      have qf2 := HF 2 _ rfl
      have qf3 := HF 3 _ rfl
      simp only [Nat.zero_add] at qf0 qf1 qf2 qf3
      exact bodyPost_ret (v := .tuple #[.agg #[.string (ofL a), .int .i64 n0, .int .i64 n1, .int .i64 n2], .bool true]) (by simp [results, Tryz.results14, go_sem, qf0, qf1, qf2, qf3]) rfl ⟨⟨ofL a, n0, n1, n2⟩, Lib.hid (by unfold goodV; rw [E.out]; rfl), by unfold goodOk; rw [E.out]; rfl, hbW⟩
end Go.Proofs.YtfogginmdglagaaGreatDoor
