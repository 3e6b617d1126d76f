/- The text of a grant. -/
import Derived.Test.YtbblkmnafdmcdaaDoorRows
import Derived.Test.YtbblkmnafdmcdaaDoorNames
import Derived.Test.YtbblkmnafdmcdaaDoorCGrant
import Derived.Deep.RegionHeld3
namespace Go.Proofs.YtbblkmnafdmcdaaDoor
set_option linter.unusedVariables false
set_option linter.unusedSimpArgs false
set_option linter.unusedSectionVars false
open Go.RowKit

def grantOkB (g : DGrant) : Bool := nameB g.fRole && (nameB g.fObject && inB g.fAction 1 3)
def grantText (g : DGrant) : ByteArray := if grantOkB g then g.fRole ++ ⟨#[32]⟩ ++ actionName g.fAction ++ ⟨#[32]⟩ ++ g.fObject else ⟨#[]⟩
theorem nameB_size {s : ByteArray} (h : nameB s = true) : s.size ≤ 10 := by
  unfold nameB at h
  rw [Bool.and_eq_true, Bool.and_eq_true] at h
  have := of_decide_eq_true h.2.2
  omega
theorem action_size (n : Int) : (actionName n).size ≤ 7 := by
  unfold actionName
  split
  · decide
  · split
    · decide
    · split <;> decide

theorem i_isAction (n : Int) (w : World) : Calls Tryd.prog 32 #[.int .i64 n] w fun e w' => e = .returned (.bool (inB n 1 3)) ∧ w = w' := by
  go_enter Tryd.func32, Tryd.ntmps32
  go_wp2_with fail
  refine (i_within _ _ _ _).mono ?_
  rintro e w' ⟨rfl, rfl⟩
  go_wp2
  go_ret
  exact ⟨rfl, rfl⟩

theorem s_l28Action (n : Int) (w : World) : Calls Tryd.prog 41 #[.int .i64 n] w fun e w' => e = .returned (.bool (inB n 1 3)) ∧ w = w' := by
  go_enter Tryd.func41, Tryd.ntmps41
  go_wp2_with fail
  refine (s_l00In _ _ _ _).mono ?_
  rintro e w' ⟨rfl, rfl⟩
  go_wp2
  go_ret
  exact ⟨rfl, rfl⟩

set_option maxHeartbeats 400000 in
theorem s_l28Fine (b off : Nat) (g : DGrant) (w : World) (hg : g.good) (hc : w.rangeAt b off (grantE.cells g)) :
    Calls Tryd.prog 30 #[.pointer (some ⟨b, off, none⟩)] w fun e w' => e = .returned (.bool (grantOkB g)) ∧ w = w' := by
  have hc0 := hc 0 (.string g.fRole) rfl
  have hc1 := hc 1 (.string g.fObject) rfl
  have hc2 := hc 2 (.int .i64 g.fAction) rfl
  rw [Nat.add_zero] at hc0
  clear hc
  go_enter Tryd.func30, Tryd.ntmps30
  go_wp2_with fail
  refine (s_l01Name g.fRole _ hg.1).mono ?_
  rintro e w' ⟨rfl, rfl⟩
  rcases h1 : nameB g.fRole with _ | _
  · have H1 := Lib.hid h1; clear h1
    go_wp2
    go_ret
    exact ⟨ret_bool (by unfold grantOkB; rw [H1.out]; rfl), rfl⟩
  · have H1 := Lib.hid h1; clear h1
    go_wp2_with fail
    refine (s_l01Name g.fObject _ hg.2.1).mono ?_
    rintro e w' ⟨rfl, rfl⟩
    rcases h2 : nameB g.fObject with _ | _
    · have H2 := Lib.hid h2; clear h2
      go_wp2
      go_ret
      exact ⟨ret_bool (by unfold grantOkB; rw [H1.out, H2.out]; rfl), rfl⟩
    · have H2 := Lib.hid h2; clear h2
      go_wp2_with fail
      refine (s_l28Action _ _).mono ?_
      rintro e w' ⟨rfl, rfl⟩
      go_wp2
      go_ret
      exact ⟨ret_bool (by unfold grantOkB; rw [H1.out, H2.out]; rfl), rfl⟩

set_option maxHeartbeats 400000 in
theorem i_GrantText (g : DGrant) (w : World) (hg : g.good) :
    Calls Tryd.prog 21 #[.agg #[.string g.fRole, .string g.fObject, .int .i64 g.fAction]] w fun e w' => e = .returned (.string (grantText g)) ∧ Below w.heap.size w w' := by
  go_enter Tryd.func21, Tryd.ntmps21
  go_wp2_with fail
  refine (i_IsName g.fRole _ hg.1).mono ?_
  rintro e w' ⟨rfl, rfl⟩
  rcases h1 : nameB g.fRole with _ | _
  · have E : Hid (grantText g = ⟨#[]⟩) := Lib.hid (by unfold grantText grantOkB; rw [h1]; rfl)
    clear h1
    go_wp2
    go_ret
    exact ⟨by rw [E.out]; rfl, by (repeat (first | exact Below.refl _ _ | assumption | refine Below.drew ?_ | refine Below.alloc ?_ (by first | omega | (simp; done) | (simp; omega) | exact Below.size (by assumption)) _ | refine Below.setCell ?_ (by first | omega | (simp; done) | (simp; omega)) _))⟩
  · have z1 := nameB_size h1
    have H1 := Lib.hid h1; clear h1
    go_wp2_with fail
    refine (i_IsName g.fObject _ hg.2.1).mono ?_
    rintro e w' ⟨rfl, rfl⟩
    rcases h2 : nameB g.fObject with _ | _
    · have E : Hid (grantText g = ⟨#[]⟩) := Lib.hid (by unfold grantText grantOkB; rw [H1.out, h2]; rfl)
      clear h2
      go_wp2
      go_ret
      exact ⟨by rw [E.out]; rfl, by (repeat (first | exact Below.refl _ _ | assumption | refine Below.drew ?_ | refine Below.alloc ?_ (by first | omega | (simp; done) | (simp; omega) | exact Below.size (by assumption)) _ | refine Below.setCell ?_ (by first | omega | (simp; done) | (simp; omega)) _))⟩
    · have z2 := nameB_size h2
      have H2 := Lib.hid h2; clear h2
      go_wp2_with fail
      refine (i_isAction _ _).mono ?_
      rintro e w' ⟨rfl, rfl⟩
      rcases h3 : inB g.fAction 1 3 with _ | _
      · have E : Hid (grantText g = ⟨#[]⟩) := Lib.hid (by unfold grantText grantOkB; rw [H1.out, H2.out, h3]; rfl)
        clear h3
        go_wp2
        go_ret
        exact ⟨by rw [E.out]; rfl, by (repeat (first | exact Below.refl _ _ | assumption | refine Below.drew ?_ | refine Below.alloc ?_ (by first | omega | (simp; done) | (simp; omega) | exact Below.size (by assumption)) _ | refine Below.setCell ?_ (by first | omega | (simp; done) | (simp; omega)) _))⟩
      · have E : Hid (grantText g = g.fRole ++ ⟨#[32]⟩ ++ actionName g.fAction ++ ⟨#[32]⟩ ++ g.fObject) := Lib.hid (by unfold grantText grantOkB; rw [H1.out, H2.out, h3]; rfl)
        have z3 := action_size g.fAction
        clear h3
        have hc := range_new w #[.string g.fRole, .string g.fObject, .int .i64 g.fAction] 29
        have hb0 : Below w.heap.size w (w.alloc (.cells #[.string g.fRole, .string g.fObject, .int .i64 g.fAction] 29)) := (Below.refl _ _).alloc (Nat.le_refl _) _
        obtain ⟨W0, hW0⟩ : ∃ W0, w.alloc (.cells #[.string g.fRole, .string g.fObject, .int .i64 g.fAction] 29) = W0 := ⟨_, rfl⟩
        go_wp2_with fail
        rw [hW0] at hc hb0
        have hc0 := hc 0 (.string g.fRole) rfl
        have hc1 := hc 1 (.string g.fObject) rfl
        have hc2 := hc 2 (.int .i64 g.fAction) rfl
        simp only [Nat.zero_add] at hc0 hc1 hc2
        clear hW0 hc
        have q1 := fun W => run_string_add_sum (P := Tryd.prog) W g.fRole ⟨#[32]⟩ (by show _ + 1 ≤ _; omega)
        have q2 := fun W => run_string_add_sum (P := Tryd.prog) W (g.fRole ++ ⟨#[32]⟩) (actionName g.fAction) (by rw [ba_app_size]; show _ + 1 + _ ≤ _; omega)
        have q3 := fun W => run_string_add_sum (P := Tryd.prog) W (g.fRole ++ ⟨#[32]⟩ ++ actionName g.fAction) ⟨#[32]⟩ (by rw [ba_app_size, ba_app_size]; show _ + 1 + _ + 1 ≤ _; omega)
        have q4 := fun W => run_string_add_sum (P := Tryd.prog) W (g.fRole ++ ⟨#[32]⟩ ++ actionName g.fAction ++ ⟨#[32]⟩) g.fObject (by rw [ba_app_size, ba_app_size, ba_app_size]; show _ + 1 + _ + 1 + _ ≤ _; omega)
        go_region_held3 (fun w' => w'.cell? ⟨w.heap.size, 0, none⟩ = some (.string g.fRole) ∧ w'.cell? ⟨w.heap.size, 1, none⟩ = some (.string g.fObject) ∧ w'.cell? ⟨w.heap.size, 2, none⟩ = some (.int .i64 g.fAction) ∧ Below w.heap.size w w')
          (first | exact ⟨hc0, hc1, hc2, hb0.drew⟩ | (go_split_ands; exact ⟨cell_later hb1 (by assumption), cell_later hb1 (by assumption), cell_later hb1 (by assumption), Below.trans (by assumption) (hb1.mono (Below.size (by assumption)))⟩) | (go_split_ands; exact ⟨by assumption, by assumption, by assumption, by assumption⟩))
          (first | (go_at_call 33; refine (i_ActionName _ _).mono ?_; rintro e w1 ⟨rfl, hb1⟩))
        rename_i hh
        obtain ⟨_, _, _, hb2⟩ := hh
        clear q1 q2 q3 q4
        go_wp2
        go_ret
        exact ⟨by rw [E.out]; rfl, hb2⟩
theorem I_GrantText (g : DGrant) (w : World) (hg : g.good) (hz : g.sz ≤ 1048576) :
    Calls Tryd.prog 21 #[.agg #[.string g.fRole, .string g.fObject, .int .i64 g.fAction]] w fun e w' => e = .returned (.string (grantText g)) ∧ Below w.heap.size w w' := i_GrantText g w hg

end Go.Proofs.YtbblkmnafdmcdaaDoor
