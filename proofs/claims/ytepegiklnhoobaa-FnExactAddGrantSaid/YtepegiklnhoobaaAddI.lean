/- Grants with one more: the program. -/
import Derived.Test.YtepegiklnhoobaaRows
import Derived.Test.YtepegiklnhoobaaAddG
import Derived.Deep.RegionHeld3
namespace Go.Proofs.Ytepegiklnhoobaa
set_option linter.unusedVariables false
set_option linter.unusedSimpArgs false
set_option linter.unusedSectionVars false
open Go.RowKit

set_option maxRecDepth 100000 in
set_option maxHeartbeats 4000000 in
theorem I_AddGrant (A1 : Option Addr) (n1 c1 : Nat) (rl : List DRole) (A : Option Addr) (n c : Nat) (l : List DGrant) (x : DGrant) (w : World) (hrl : RdRole w A1 n1 rl) (hn1 : n1 ≤ 1048576) (hg1 : ∀ x ∈ rl, x.good) (hs1 : sumRole rl ≤ 1048576)
    (hr : Rd grantE w A n l) (hcap : n ≤ c) (hA : (A = none ∧ c = 0) ∨ ∃ g, A = some ⟨g, 0, none⟩) (hn : n ≤ 1048576) (hg : ∀ x ∈ l, x.good) (hs : sumGrant l ≤ 1048576) (hgx : x.good) (hzx : x.sz ≤ 1048576) :
    Calls Try.prog 50 #[.slice A1 n1 c1, .slice A n c, .agg #[.string x.fRole, .string x.fObject, .int .i64 x.fAction]] w (RetLC grantE 50 (addList rl l x) (addCode rl l x) w) := by
  have Hl := Lib.hid hr.1
  have hcx := range_new w #[.string x.fRole, .string x.fObject, .int .i64 x.fAction] 50
  have hb0 : Below w.heap.size w (w.alloc (.cells #[.string x.fRole, .string x.fObject, .int .i64 x.fAction] 50)) := by (repeat (first | exact Below.refl _ _ | assumption | refine Below.drew ?_ | refine Below.alloc ?_ (by first | omega | (simp; done) | (simp; omega) | exact Below.size (by assumption)) _ | refine Below.setCell ?_ (by first | omega | (simp; done) | (simp; omega)) _))
  obtain ⟨W0, hW0⟩ : ∃ W0, w.alloc (.cells #[.string x.fRole, .string x.fObject, .int .i64 x.fAction] 50) = W0 := ⟨_, rfl⟩
  rw [hW0] at hcx hb0
  have hx00 := hcx 0 _ rfl
  have hx01 := hcx 1 _ rfl
  have hx02 := hcx 2 _ rfl
  simp only [Nat.zero_add] at hx00 hx01 hx02
  go_enter Try.func50, Try.ntmps50
  go_wp2_with fail
  try rw [hW0]
  clear hW0
  refine (I_ValidGrants A1 n1 c1 rl A n c l _ (hrl.below hb0) hn1 hg1 hs1 (hr.below hb0) hn hg hs).mono ?_
  rintro e w1 ⟨rfl, hb1⟩
  have hx0 := cell_later hb1 hx00
  have hx1 := cell_later hb1 hx01
  have hx2 := cell_later hb1 hx02
  have hcx1 := range_below (B := 0) hcx hb1
  have hbF := hb0.trans (hb1.mono hb0.size)
  clear hcx hb1 hb0 hx00 hx01 hx02
  rcases hB : grantsB rl l with _ | _
  · have HB := Lib.hid (add_bad (x := x) hB)
    clear hB
    go_wp2
    go_ret2
    exact RetLC.nil HB.out.1 HB.out.2 hbF
  · have HG := Lib.hid hB
    have HSo := Lib.hid (sorted_of_grants hB)
    clear hB
    have hone := i_grantOk A1 n1 c1 rl x w1 (hrl.below hbF) hn1 hgx
    clear hcx1
    simp only [Nat.zero_add] at *
    rcases hk : okG rl x with _ | _
    · have HB := Lib.hid (add_range HG.out hk)
      rw [hk] at hone
      clear hk
      go_wp2_with fail
      refine hone.mono ?_
      rintro e w2 ⟨rfl, hb2⟩
      have hbG := hbF.trans (hb2.mono hbF.size)
      clear hone
      go_wp2
      go_ret2
      exact RetLC.nil HB.out.1 HB.out.2 hbG
    · have HK := Lib.hid hk
      have hka := okG_action hk
      rw [hk] at hone
      clear hk
      go_wp2_with fail
      refine hone.mono ?_
      rintro e w2 ⟨rfl, hb2⟩
      have hbG := hbF.trans (hb2.mono hbF.size)
      replace hx0 := cell_later hb2 hx0
      replace hx1 := cell_later hb2 hx1
      replace hx2 := cell_later hb2 hx2
      clear hone hb2 hbF
      obtain ⟨p, hp⟩ : ∃ p, posG l x = p := ⟨_, rfl⟩
      have HP := Lib.hid hp
      have hple : p ≤ n := by have := (HSo.out.parts x).le; rw [hp] at this; have := Hl.out; omega
      have hbin := i_BinSearchG A n c l x p w2 (hr.below hbG) (by omega) (by rw [← hp]; exact HSo.out.parts x) (fun y hy => by have := grants_small HSo.out hy; omega) (by omega)
      clear hp hka
      rcases hf : foundG l x p with _ | _
      · rw [hf] at hbin
        by_cases h48 : n = 48
        · have HB := Lib.hid (add_full HG.out HK.out (by rw [HP.out]; exact hf) (Hl.out.trans h48))
          have h48' : ((n : Int) == 48) = true := by rw [beq_iff_eq]; omega
          clear h48 hf
          go_wp2_with fail
          refine hbin.mono ?_
          rintro e w3 ⟨rfl, hb3⟩
          have hbH := hbG.trans (hb3.mono hbG.size)
          clear hbin
          go_wp2
          go_ret2
          exact RetLC.nil HB.out.1 HB.out.2 hbH
        · have HB := Lib.hid (add_new HG.out HK.out HP.out hf (by rw [Hl.out]; exact h48))
          have h48' : ((n : Int) == 48) = false := by rw [beq_eq_false_iff_ne]; omega
          clear h48 hf
          go_wp2_with fail
          refine hbin.mono ?_
          rintro e w3 ⟨rfl, hb3⟩
          have hbH := hbG.trans (hb3.mono hbG.size)
          have hy0 := cell_later hb3 hx0
          have hy1 := cell_later hb3 hx1
          have hy2 := cell_later hb3 hx2
          clear hbin hb3 hbG hx0 hx1 hx2
          have hsz := hbH.size
          have hbd := hbH.drew
          have hlt0 : w.heap.size < w3.drew.heap.size := World.block_lt_of_cell? w3 _ hy0
          have hz0 : w3.drew.cell? ⟨w.heap.size, 0, none⟩ = some (.string x.fRole) := hy0
          have hz1 : w3.drew.cell? ⟨w.heap.size, 1, none⟩ = some (.string x.fObject) := hy1
          have hz2 : w3.drew.cell? ⟨w.heap.size, 2, none⟩ = some (.int .i64 x.fAction) := hy2
          have ha0 := fun o => (World.cell?_alloc_lt w3.drew o _ hlt0).trans hz0
          have ha1 := fun o => (World.cell?_alloc_lt w3.drew o _ hlt0).trans hz1
          have ha2 := fun o => (World.cell?_alloc_lt w3.drew o _ hlt0).trans hz2
          go_wp2_with fail
          go_region_held3 (fun w' => w'.cell? ⟨w.heap.size, 0, none⟩ = some (.string x.fRole) ∧ w'.cell? ⟨w.heap.size, 1, none⟩ = some (.string x.fObject) ∧ w'.cell? ⟨w.heap.size, 2, none⟩ = some (.int .i64 x.fAction))
            (first | exact ⟨cell_later hb5 hz0, cell_later hb5 hz1, cell_later hb5 hz2⟩ | exact ⟨hz0, hz1, hz2⟩ | exact ⟨ha0 _, ha1 _, ha2 _⟩ | exact ⟨cell_later hbc hz0, cell_later hbc hz1, cell_later hbc hz2⟩ | exact ⟨cell_later hbc (ha0 _), cell_later hbc (ha1 _), cell_later hbc (ha2 _)⟩ | exact ⟨(World.cell?_alloc_lt _ _ _ (Nat.lt_of_lt_of_le hlt0 hbc.size)).trans (cell_later hbc hz0), (World.cell?_alloc_lt _ _ _ (Nat.lt_of_lt_of_le hlt0 hbc.size)).trans (cell_later hbc hz1), (World.cell?_alloc_lt _ _ _ (Nat.lt_of_lt_of_le hlt0 hbc.size)).trans (cell_later hbc hz2)⟩ | (go_split_ands; exact ⟨by assumption, by assumption, by assumption⟩))
            (first
              | (go_at_call 75; refine (i_cloneGrant A n c l _ (hr.below (by first | exact hbd | exact hbd.alloc hbd.size _)) (by omega)).mono ?_; rintro e w4 ⟨g, rfl, hgl, hbc⟩)
              | (go_at_call 83; first
                  | (have hb1' : Below w3.drew.heap.size w3.drew (w4.alloc (.cells #[.string x.fRole, .string x.fObject, .int .i64 x.fAction] 50)) := hbc.alloc hbc.size _; refine (i_InsertGrant g n p _ w3.drew.heap.size l x _ w3.drew (hgl.alloc (.cells #[.string x.fRole, .string x.fObject, .int .i64 x.fAction] 50)) hple (by omega) (range_new w4 #[.string x.fRole, .string x.fObject, .int .i64 x.fAction] 50) hb1' hb1'.size).mono ?_; rintro e w5 ⟨A3, c3, rfl, hgl3, hb5⟩)
                  | (have hq2 := range_below (B := 0) (range_new w3.drew #[.string x.fRole, .string x.fObject, .int .i64 x.fAction] 50) hbc; have hb2' : Below w3.drew.heap.size w3.drew w4 := ((Below.refl _ _).alloc (Nat.le_refl _) (.cells #[.string x.fRole, .string x.fObject, .int .i64 x.fAction] 50)).trans (hbc.mono (by simp)); refine (i_InsertGrant g n p _ w3.drew.heap.size l x _ w3.drew (hgl.mono (by simp)) hple (by omega) hq2 hb2' hb2'.size).mono ?_; rintro e w5 ⟨A3, c3, rfl, hgl3, hb5⟩)))
          all_goals
            have hgz := hgl3.mono hbd.size
            have hbY := hbd.trans (hb5.mono hbd.size)
            clear hgl3 hb5 hbc hgl
            go_wp2
            go_ret2
            exact RetLC.mk hgz (by omega) HB.out.1 HB.out.2 hbY
      · have HB := Lib.hid (add_there HG.out HK.out (by rw [HP.out]; exact hf))
        rw [hf] at hbin
        clear hf
        go_wp2_with fail
        refine hbin.mono ?_
        rintro e w3 ⟨rfl, hb3⟩
        have hbH := hbG.trans (hb3.mono hbG.size)
        clear hbin
        go_wp2
        go_ret2
        exact RetLC.nil HB.out.1 HB.out.2 hbH

end Go.Proofs.Ytepegiklnhoobaa
