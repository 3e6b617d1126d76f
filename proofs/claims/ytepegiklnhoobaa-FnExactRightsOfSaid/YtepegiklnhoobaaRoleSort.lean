/- The library's sort at grants, by their order. -/
import Derived.Test.YtepegiklnhoobaaRows
import Derived.Test.YtepegiklnhoobaaRightsLaw
import Derived.Test.YtepegiklnhoobaaGrantsI
import Derived.Test.YtepegiklnhoobaaShelf
import Derived.Test.YtepegiklnhoobaaSortG
namespace Go.Proofs.Ytepegiklnhoobaa
set_option linter.unusedVariables false
set_option linter.unusedSimpArgs false
set_option linter.unusedSectionVars false
open Go.RowKit Go.Sort

set_option maxHeartbeats 2000000 in
theorem i_Grant_compare_lays (x y : DGrant) (w : World) (hx : -4611686018427387904 ≤ x.fAction ∧ x.fAction ≤ 4611686018427387903) (hy : -4611686018427387904 ≤ y.fAction ∧ y.fAction ≤ 4611686018427387903) :
    Calls Try.prog 67 #[.agg #[.string x.fRole, .string x.fObject, .int .i64 x.fAction], .agg #[.string y.fRole, .string y.fObject, .int .i64 y.fAction]] w fun e w' => e = .returned (.int .i64 (cmpGr x y)) ∧ ∃ q os', w' = grow (w.drewN q) os' := by
  have hK : Hid (Lib.compareBytes x.fRole.data.toList y.fRole.data.toList = cmpS x.fRole y.fRole) := Lib.hid rfl
  have hN : Hid (Lib.compareBytes x.fObject.data.toList y.fObject.data.toList = cmpS x.fObject y.fObject) := Lib.hid rfl
  go_enter Try.func67, Try.ntmps67
  go_wp2_with fail
  refine (Try.strings_Compare x.fRole y.fRole _).mono ?_
  rintro e w' ⟨rfl, hw⟩
  subst hw
  rw [hK.out]
  by_cases h : cmpS x.fRole y.fRole = 0
  · rw [h]
    go_wp2_with fail
    refine (Try.strings_Compare x.fObject y.fObject _).mono ?_
    rintro e w' ⟨rfl, hw⟩
    subst hw
    rw [hN.out]
    by_cases h2 : cmpS x.fObject y.fObject = 0
    · have E : Hid (cmpGr x y = x.fAction - y.fAction) := Lib.hid (by unfold cmpGr; rw [if_neg (by simpa using h), if_neg (by simpa using h2)])
      rw [h2]
      go_wp2
      go_ret
      exact ⟨ret_int E.out.symm, 0, _, by rw [alloc_eq_grow, alloc_eq_grow, grow_grow]; rfl⟩
    · have E : Hid (cmpGr x y = cmpS x.fObject y.fObject) := Lib.hid (by unfold cmpGr; rw [if_neg (by simpa using h), if_pos h2])
      have h1 : (cmpS x.fObject y.fObject != 0) = true := by rw [bne_iff_ne]; exact h2
      clear h2
      go_wp2
      go_ret
      exact ⟨ret_int E.out.symm, 0, _, by rw [alloc_eq_grow, alloc_eq_grow, grow_grow]; rfl⟩
  · have E : Hid (cmpGr x y = cmpS x.fRole y.fRole) := Lib.hid (by unfold cmpGr; rw [if_pos h])
    have h1 : (cmpS x.fRole y.fRole != 0) = true := by rw [bne_iff_ne]; exact h
    clear h
    go_wp2
    go_ret
    exact ⟨ret_int E.out.symm, 0, _, by rw [alloc_eq_grow, alloc_eq_grow, grow_grow]; rfl⟩
theorem grants_size (w : World) : (Go.sizeOf 50).run Try.prog w = .ok 3 w := by
  obtain ⟨j0, gi, gz0, gz1, gz2⟩ := info_parts Try.inf_Grant
  simp [Go.sizeOf, typeInfo, gi, gz1]
set_option maxRecDepth 100000 in
set_option maxHeartbeats 2000000 in
theorem i_sortGrants (g c : Nat) (d : List GS) (w : World) (hH : HoldsK gsCells 3 w g 0 d.toArray) (hg : g < w.heap.size) (hsz : d.length < 4611686018427387904) :
    Calls Try.prog 84 #[.slice (some ⟨g, 0, none⟩) d.length c, .func (.func 67) #[] #[]] w fun e w' => e = .returned (.tuple #[]) ∧ ∃ n os, w' = sortWorldK gsCells 3 w g 0 n (d.mergeSort fun x y => !ltOf gsCmp y x).toArray os := by
  have eg : ∀ args w, (callFunc 67 args).run Try.prog w = .ok (.enter 67 args) w := enters_of Try.func67 (by kernel_rfl) rfl
  have hcmp : CmpLays Try.prog 67 #[] gsCells 3 gsCmp g 0 d.toArray.size w := fun _ _ _ _ x y => i_Grant_compare_lays x.val y.val _ (by have := x.property; omega) (by have := y.property; omega)
  have h := AnyQ.slices_SortFunc_total Try.sortG 3 Try.isAgg50 grants_size gsCells (fun _ => rfl) (fun x v hv => grantE.one x.val v hv) gsCmp gs_swo 67 #[] g 0 c d.toArray w eg hcmp hH hg (by simpa using hsz) gs_tot
  change Calls Try.prog 84 _ _ _ at h
  simpa using h
end Go.Proofs.Ytepegiklnhoobaa
