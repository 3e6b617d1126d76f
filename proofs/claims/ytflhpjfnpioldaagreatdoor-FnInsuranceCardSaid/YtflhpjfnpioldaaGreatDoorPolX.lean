/- Policies: where two cross. Printed by a program of mine. -/
import Derived.Test.YtflhpjfnpioldaaGreatDoorRows
import Derived.Test.YtflhpjfnpioldaaGreatDoorPolF
namespace Go.Proofs.YtflhpjfnpioldaaGreatDoor
set_option linter.unusedVariables false
set_option linter.unusedSimpArgs false
set_option linter.unusedSectionVars false
open Go.RowKit

theorem rd_one {W : World} {g : Nat} {v : Int} (h : W.cell? ⟨g, 0, none⟩ = some (.int .i64 v)) : Rd intE W (some ⟨g, 0, none⟩) 1 [v] :=
  ⟨rfl, fun _ => ⟨g, 0, rfl, fun k x hx j u hu => by
    match k, hx with
    | 0, hx =>
      obtain rfl : v = x := Option.some.inj hx
      match j, hu with
      | 0, hu =>
        obtain rfl : Value.int .i64 v = u := Option.some.inj hu
        exact h⟩⟩
theorem dams_one {v : Int} (h0 : 0 ≤ v) (h1 : v ≤ 10000000) : Dams [v] := ⟨fun d hd => by rw [List.mem_singleton] at hd; subst hd; exact ⟨h0, h1⟩, by simp⟩
theorem max2_eq (a b : Int) : (if b > a then b else a) = max a b := by
  rw [Int.max_def]
  split <;> split <;> omega
theorem run_max4 {P : Program} (ts : Array TypeId) (t : TypeId) (a b c d : Int) (w : World) : (Builtin.max_ ts t #[.int .i64 a, .int .i64 b, .int .i64 c, .int .i64 d]).run P w = .ok (.int .i64 (max (max (max a b) c) d)) w := by
  simp [Builtin.max_, Builtin.max2, max2_eq]
def CrossR (x y : DPolicy) (w : World) (e : Ending) (w' : World) : Prop :=
  ((∃ d : Nat, d ≤ 20000 ∧ costP x [(d : Int)] < costP y [(d : Int)] ∧ (0 < d → y.fPremium ≤ x.fPremium) ∧ e = .returned (.tuple #[.int .i64 d, .int .i64 0])) ∨ (y.fPremium ≤ x.fPremium ∧ e = .returned (.tuple #[.int .i64 0, .int .i64 3]))) ∧ Below w.heap.size w w'
theorem cell_alloc {w : World} {g : Nat} (v : Value) (t : TypeId) (h : g = w.heap.size) : (w.alloc (.cells #[v] t)).cell? ⟨g, 0, none⟩ = some v := by
  subst h
  have := range_new w #[v] t 0 v rfl
  exact this
theorem cell_drew {w : World} {p : Addr} {v : Value} (h : w.cell? p = some v) : w.drew.cell? p = some v := h
set_option maxRecDepth 100000 in
set_option maxHeartbeats 4000000 in
theorem i_CrossAt (x y : DPolicy) (w : World) (hokx : okPolicy x = true) (hoky : okPolicy y = true) (hsx : x.fId.size ≤ maxLen) (hsy : y.fId.size ≤ maxLen) (h1 : x.fPremium ≤ 20000) (h2 : x.fExcess ≤ 20000) (h3 : y.fPremium ≤ 20000) (h4 : y.fExcess ≤ 20000) :
    Calls Tryz.prog 19 #[.agg #[.string x.fId, .int .i64 x.fPremium, .int .i64 x.fShare, .int .i64 x.fExcess, .int .i64 x.fMost], .agg #[.string y.fId, .int .i64 y.fPremium, .int .i64 y.fShare, .int .i64 y.fExcess, .int .i64 y.fMost]] w (CrossR x y w) := by
  have hV := fun W => i_validPolicy x W hsx
  have hU := fun W => i_validPolicy y W hsy
  rw [hokx] at hV
  rw [hoky] at hU
  have HPX := Lib.hid (PB.of hokx)
  have HPY := Lib.hid (PB.of hoky)
  have hmx := fun W => run_max4 (P := Tryz.prog) #[2, 2, 2, 2] 2 x.fPremium x.fExcess y.fPremium y.fExcess W
  have hm : ¬ (20000 : Int) < max (max (max x.fPremium x.fExcess) y.fPremium) y.fExcess := by omega
  have hm' : ¬ (20000 : Int) < max x.fPremium (max x.fExcess (max y.fPremium y.fExcess)) := by omega
  clear hokx hoky
  have hR := range_new w #[.string x.fId, .int .i64 x.fPremium, .int .i64 x.fShare, .int .i64 x.fExcess, .int .i64 x.fMost] 35
  obtain ⟨W0, hW0⟩ : ∃ W0, w.alloc (.cells #[.string x.fId, .int .i64 x.fPremium, .int .i64 x.fShare, .int .i64 x.fExcess, .int .i64 x.fMost] 35) = W0 := ⟨_, rfl⟩
  have hb0 : Below w.heap.size w W0 := hW0 ▸ (Below.refl _ _).alloc (Nat.le_refl _) _
  have z0 : W0.heap.size = w.heap.size + 1 := by rw [← hW0]; simp
  rw [hW0] at hR
  have hS := range_new W0 #[.string y.fId, .int .i64 y.fPremium, .int .i64 y.fShare, .int .i64 y.fExcess, .int .i64 y.fMost] 35
  obtain ⟨W1, hW1⟩ : ∃ W1, W0.alloc (.cells #[.string y.fId, .int .i64 y.fPremium, .int .i64 y.fShare, .int .i64 y.fExcess, .int .i64 y.fMost] 35) = W1 := ⟨_, rfl⟩
  have hba : Below W0.heap.size W0 W1 := hW1 ▸ (Below.refl _ _).alloc (Nat.le_refl _) _
  have z1 : W1.heap.size = w.heap.size + 2 := by rw [← hW1]; simp; omega
  replace hb0 := hb0.trans (hba.mono hb0.size)
  rw [hW1, z0] at hS
  have hR1 := range_below (B := 0) hR hba
  have hx0 := hR1 0 _ rfl
  have hx1 := hR1 1 _ rfl
  have hx2 := hR1 2 _ rfl
  have hx3 := hR1 3 _ rfl
  have hx4 := hR1 4 _ rfl
  simp only [Nat.zero_add] at hx0 hx1 hx2 hx3 hx4
  have hy0 := hS 0 _ rfl
  have hy1 := hS 1 _ rfl
  have hy2 := hS 2 _ rfl
  have hy3 := hS 3 _ rfl
  have hy4 := hS 4 _ rfl
  simp only [Nat.zero_add] at hy0 hy1 hy2 hy3 hy4
  clear hR hR1 hS hba
  go_enter Tryz.func19, Tryz.ntmps19
  go_wp2_with fail
  try rw [hW0]
  try rw [hW1]
  clear hW0 hW1 z0 z1
  refine (hV _).mono ?_
  rintro e w1 ⟨rfl, hb1⟩
  replace hx0 := cell_later hb1 hx0
  replace hx1 := cell_later hb1 hx1
  replace hx2 := cell_later hb1 hx2
  replace hx3 := cell_later hb1 hx3
  replace hx4 := cell_later hb1 hx4
  replace hy0 := cell_later hb1 hy0
  replace hy1 := cell_later hb1 hy1
  replace hy2 := cell_later hb1 hy2
  replace hy3 := cell_later hb1 hy3
  replace hy4 := cell_later hb1 hy4
  replace hb0 := hb0.trans (hb1.mono hb0.size)
  clear hV hb1
  go_wp2_with fail
  refine (hU _).mono ?_
  rintro e w2 ⟨rfl, hb1⟩
  replace hx0 := cell_later hb1 hx0
  replace hx1 := cell_later hb1 hx1
  replace hx2 := cell_later hb1 hx2
  replace hx3 := cell_later hb1 hx3
  replace hx4 := cell_later hb1 hx4
  replace hy0 := cell_later hb1 hy0
  replace hy1 := cell_later hb1 hy1
  replace hy2 := cell_later hb1 hy2
  replace hy3 := cell_later hb1 hy3
  replace hy4 := cell_later hb1 hy4
  replace hb0 := hb0.trans (hb1.mono hb0.size)
  clear hU hb1
  go_wp2_with fail
  have HX := Lib.hid (fun (W : World) (hb : Below w2.heap.size w2 W) => (show (W.cell? ⟨w.heap.size, 0, none⟩ = some (.string x.fId) ∧ W.cell? ⟨w.heap.size, 1, none⟩ = some (.int .i64 x.fPremium) ∧ W.cell? ⟨w.heap.size, 2, none⟩ = some (.int .i64 x.fShare) ∧ W.cell? ⟨w.heap.size, 3, none⟩ = some (.int .i64 x.fExcess) ∧ W.cell? ⟨w.heap.size, 4, none⟩ = some (.int .i64 x.fMost)) ∧ (W.cell? ⟨(w.heap.size + 1), 0, none⟩ = some (.string y.fId) ∧ W.cell? ⟨(w.heap.size + 1), 1, none⟩ = some (.int .i64 y.fPremium) ∧ W.cell? ⟨(w.heap.size + 1), 2, none⟩ = some (.int .i64 y.fShare) ∧ W.cell? ⟨(w.heap.size + 1), 3, none⟩ = some (.int .i64 y.fExcess) ∧ W.cell? ⟨(w.heap.size + 1), 4, none⟩ = some (.int .i64 y.fMost)) from ⟨⟨cell_later hb hx0, cell_later hb hx1, cell_later hb hx2, cell_later hb hx3, cell_later hb hx4⟩, ⟨cell_later hb hy0, cell_later hb hy1, cell_later hb hy2, cell_later hb hy3, cell_later hb hy4⟩⟩))
  have HB0 := Lib.hid hb0
  clear hx0 hx1 hx2 hx3 hx4 hy0 hy1 hy2 hy3 hy4 hb0 hm hm' hmx
  go_loopw [6] (fun i wr => ∃ k : Nat, k ≤ 20001 ∧ i = .int .i64 k ∧ Hid (0 < k → y.fPremium ≤ x.fPremium) ∧ Below w2.heap.size w2 wr) (fun i _ => 20001 - (intOf i).toNat)
  case atStart => exact ⟨0, by omega, rfl, Lib.hid fun h => by omega, Below.refl _ _⟩
  case round =>
    obtain ⟨k, hk, rfl, HK, hb⟩ := hrel
    by_cases hlt : k ≤ 20000
    · have HCx : Hid (∀ (W : World) (g : Nat), W.cell? ⟨g, 0, none⟩ = some (.int .i64 (k : Int)) → Calls Tryz.prog 23 #[.agg #[.string x.fId, .int .i64 x.fPremium, .int .i64 x.fShare, .int .i64 x.fExcess, .int .i64 x.fMost], .slice (some ⟨g, 0, none⟩) 1 1] W fun e w' => e = .returned (.int .i64 (costP x [(k : Int)])) ∧ Below W.heap.size W w') := Lib.hid fun W g hg => i_costP x _ 1 1 [(k : Int)] W HPX.out (rd_one hg) (dams_one (by omega) (by omega))
      have HCy : Hid (∀ (W : World) (g : Nat), W.cell? ⟨g, 0, none⟩ = some (.int .i64 (k : Int)) → Calls Tryz.prog 23 #[.agg #[.string y.fId, .int .i64 y.fPremium, .int .i64 y.fShare, .int .i64 y.fExcess, .int .i64 y.fMost], .slice (some ⟨g, 0, none⟩) 1 1] W fun e w' => e = .returned (.int .i64 (costP y [(k : Int)])) ∧ Below W.heap.size W w') := Lib.hid fun W g hg => i_costP y _ 1 1 [(k : Int)] W HPY.out (rd_one hg) (dams_one (by omega) (by omega))
      obtain ⟨P, hPP⟩ : ∃ P, costP x [(k : Int)] = P := ⟨_, rfl⟩
      obtain ⟨R, hRR⟩ : ∃ R, costP y [(k : Int)] = R := ⟨_, rfl⟩
      rw [hPP] at HCx
      rw [hRR] at HCy
      have H1 := Lib.hid hPP
      have H2 := Lib.hid hRR
      obtain ⟨⟨hx0, hx1, hx2, hx3, hx4⟩, ⟨hy0, hy1, hy2, hy3, hy4⟩⟩ := HX.out _ hb
      clear hPP hRR
      go_wp2_with fail
      go_region_held3 (fun w' => (w'.cell? ⟨w.heap.size, 0, none⟩ = some (.string x.fId) ∧ w'.cell? ⟨w.heap.size, 1, none⟩ = some (.int .i64 x.fPremium) ∧ w'.cell? ⟨w.heap.size, 2, none⟩ = some (.int .i64 x.fShare) ∧ w'.cell? ⟨w.heap.size, 3, none⟩ = some (.int .i64 x.fExcess) ∧ w'.cell? ⟨w.heap.size, 4, none⟩ = some (.int .i64 x.fMost)) ∧ (w'.cell? ⟨(w.heap.size + 1), 0, none⟩ = some (.string y.fId) ∧ w'.cell? ⟨(w.heap.size + 1), 1, none⟩ = some (.int .i64 y.fPremium) ∧ w'.cell? ⟨(w.heap.size + 1), 2, none⟩ = some (.int .i64 y.fShare) ∧ w'.cell? ⟨(w.heap.size + 1), 3, none⟩ = some (.int .i64 y.fExcess) ∧ w'.cell? ⟨(w.heap.size + 1), 4, none⟩ = some (.int .i64 y.fMost)) ∧ Below w2.heap.size w2 w')
        (first | exact ⟨⟨hx0, hx1, hx2, hx3, hx4⟩, ⟨hy0, hy1, hy2, hy3, hy4⟩, hb.drew⟩
               | (go_split_ands; exact ⟨⟨cell_later hb2 (by assumption), cell_later hb2 (by assumption), cell_later hb2 (by assumption), cell_later hb2 (by assumption), cell_later hb2 (by assumption)⟩, ⟨cell_later hb2 (by assumption), cell_later hb2 (by assumption), cell_later hb2 (by assumption), cell_later hb2 (by assumption), cell_later hb2 (by assumption)⟩, Below.trans (by assumption) (hb2.mono (Below.size (by assumption)))⟩)
               | (go_split_ands; exact ⟨⟨cell_later ((Below.refl _ _).alloc (Nat.le_refl _) _) (by assumption), cell_later ((Below.refl _ _).alloc (Nat.le_refl _) _) (by assumption), cell_later ((Below.refl _ _).alloc (Nat.le_refl _) _) (by assumption), cell_later ((Below.refl _ _).alloc (Nat.le_refl _) _) (by assumption), cell_later ((Below.refl _ _).alloc (Nat.le_refl _) _) (by assumption)⟩, ⟨cell_later ((Below.refl _ _).alloc (Nat.le_refl _) _) (by assumption), cell_later ((Below.refl _ _).alloc (Nat.le_refl _) _) (by assumption), cell_later ((Below.refl _ _).alloc (Nat.le_refl _) _) (by assumption), cell_later ((Below.refl _ _).alloc (Nat.le_refl _) _) (by assumption), cell_later ((Below.refl _ _).alloc (Nat.le_refl _) _) (by assumption)⟩, Below.alloc (by assumption) (Below.size (by assumption)) _⟩)
               | (go_split_ands; exact ⟨⟨cell_later ((Below.refl _ _).alloc (Nat.le_refl _) _).drew (by assumption), cell_later ((Below.refl _ _).alloc (Nat.le_refl _) _).drew (by assumption), cell_later ((Below.refl _ _).alloc (Nat.le_refl _) _).drew (by assumption), cell_later ((Below.refl _ _).alloc (Nat.le_refl _) _).drew (by assumption), cell_later ((Below.refl _ _).alloc (Nat.le_refl _) _).drew (by assumption)⟩, ⟨cell_later ((Below.refl _ _).alloc (Nat.le_refl _) _).drew (by assumption), cell_later ((Below.refl _ _).alloc (Nat.le_refl _) _).drew (by assumption), cell_later ((Below.refl _ _).alloc (Nat.le_refl _) _).drew (by assumption), cell_later ((Below.refl _ _).alloc (Nat.le_refl _) _).drew (by assumption), cell_later ((Below.refl _ _).alloc (Nat.le_refl _) _).drew (by assumption)⟩, (Below.alloc (by assumption) (Below.size (by assumption)) _).drew⟩))
        (first | (go_at_call 23; go_split_ands; first | (with_reducible show Calls Tryz.prog _ #[.agg #[.string x.fId, .int .i64 x.fPremium, .int .i64 x.fShare, .int .i64 x.fExcess, .int .i64 x.fMost], _] _ _; refine (HCx.out _ _ (by repeat (first | (refine cell_alloc _ _ ?_; first | rfl | (simp; done)) | (with_reducible refine cell_drew ?_) | (with_reducible refine cell_later hb2 ?_) | (with_reducible refine cell_later ((Below.refl _ _).alloc (Nat.le_refl _) _) ?_)))).mono ?_; rintro e w3 ⟨rfl, hb2⟩) | (with_reducible show Calls Tryz.prog _ #[.agg #[.string y.fId, .int .i64 y.fPremium, .int .i64 y.fShare, .int .i64 y.fExcess, .int .i64 y.fMost], _] _ _; refine (HCy.out _ _ (by repeat (first | (refine cell_alloc _ _ ?_; first | rfl | (simp; done)) | (with_reducible refine cell_drew ?_) | (with_reducible refine cell_later hb2 ?_) | (with_reducible refine cell_later ((Below.refl _ _).alloc (Nat.le_refl _) _) ?_)))).mono ?_; rintro e w3 ⟨rfl, hb2⟩)))
      all_goals (
        rename_i hh
        obtain ⟨_, _, hbE⟩ := hh
        clear HCx HCy hx0 hx1 hx2 hx3 hx4 hy0 hy1 hy2 hy3 hy4
        by_cases hpr : P < R
        · have HF : Hid (costP x [(k : Int)] < costP y [(k : Int)]) := Lib.hid (by rw [H1.out, H2.out]; exact hpr)
          go_wp2
          go_ret2
          exact ⟨.inl ⟨k, hlt, HF.out, HK.out, rfl⟩, HB0.out.trans (hbE.mono HB0.out.size)⟩
        · have HK2 : Hid (0 < k + 1 → y.fPremium ≤ x.fPremium) := Lib.hid fun _ => by
            by_cases h0 : 0 < k
            · exact HK.out h0
            · obtain rfl : k = 0 := by omega
              have e1 : costP x [0] = P := H1.out
              have e2 : costP y [0] = R := H2.out
              rw [HPX.out.cost_zero] at e1
              rw [HPY.out.cost_zero] at e2
              omega
          go_wp2
          first | (refine ⟨⟨k + 1, by omega, by go_num, HK2, hbE⟩, ?_⟩; (simp [intOf]; omega)) | (go_roundw; (case rel => first | exact ⟨k + 1, by omega, by go_num, HK2, hbE⟩ | ((try refine ⟨trivial, ?_⟩); (repeat apply Exists.intro); exact ⟨⟨k + 1, by omega, by go_num, HK2, hbE⟩, rfl⟩)); (case measure => (simp [intOf]; omega))))
    · have HN := HK.out (by omega)
      go_wp2
      go_ret2
      exact ⟨.inr ⟨HN, rfl⟩, HB0.out.trans (hb.mono HB0.out.size)⟩
end Go.Proofs.YtflhpjfnpioldaaGreatDoor
