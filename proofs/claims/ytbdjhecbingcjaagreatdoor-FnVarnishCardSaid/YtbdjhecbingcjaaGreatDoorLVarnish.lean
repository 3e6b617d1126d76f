/- The law FnVarnish answers true for all arguments: no conditions. -/
import Derived.Test.YtbdjhecbingcjaaGreatDoorRows
import Derived.Test.YtbdjhecbingcjaaGreatDoorLaw
import Derived.Test.YtbdjhecbingcjaaGreatDoorVarnW
import Derived.Test.YtbdjhecbingcjaaGreatDoorLawB
import Derived.ProofKit
import Derived.OpenShut
import Derived.Test.YtbdjhecbingcjaaGreatDoorLaidL
import Derived.Test.YtbdjhecbingcjaaGreatDoorTie
import Derived.Test.YtbdjhecbingcjaaGreatDoorCards
import Derived.LaidMore
import Derived.Lay
import Derived.SevenTiedAt
import Derived.Stop.Joined
namespace Go.Proofs.YtbdjhecbingcjaaGreatDoor.fnVarnish
set_option linter.unusedVariables false
set_option linter.unusedSimpArgs false
set_option linter.unusedSectionVars false
open Go.ChangeShapes Go.WideShapes Go.ChangeAt Go.RowKit

theorem own : ownKnob Tryz.prog.godebug = none := by kernel_rfl
theorem laid : laidOutB Tryz.prog = true := by kernel_rfl
set_option maxRecDepth 100000 in
theorem contract (H : Type) (enc : TypeId × Value → H) (W : World) (base : Nat) (args : Array Value) (ds gs : List (DataW H)) (before : List MemPlace)
    (hval : ∀ (j : Nat) t v, Tryz.f3.params[j]? = some t → args[j]? = some v → Value.okWide Tryz.prog W .any base t v)
    (hW : DataW.Whole enc Tryz.prog Tryz.f3.params.toList Rows.fnVarnishSpec.vars false W args.toList ds gs before) (hLW : LibW W) :
    Calls Tryz.prog 3 args W fun e W' => ∃ v, e = .returned v ∧ Rows.fnVarnishSpec.post enc Tryz.prog Tryz.f3 false true false false W args v W' := by
  have hW' := hW
  obtain ⟨p, q, hA0, hV, rfl, hfz, hnd⟩ := hW
  have hA : DataW.TrodAll enc Tryz.prog W 0 (fun _ => true) true Tryz.f3.params.toList args.toList ds p := hA0
  rw [Tryz.params3] at hA hval
  obtain ⟨v0, vs0, d0, ds0, p0, q0, hargs, rfl, rfl, h0, r0⟩ := trodAll_cons hA
  obtain ⟨v1, vs1, d1, ds1, p1, q1, rfl, rfl, rfl, h1, r1⟩ := trodAll_cons r0
  obtain ⟨rfl, rfl, rfl⟩ := trodAll_nil r1
  obtain rfl : args = #[v0, v1] := by cases args; simp_all
  clear hA0 hA hfz hnd hargs
  obtain ⟨A0, n0, c0, l0, rfl, hn0, hr0, hg0⟩ := open_rd (base := 0) (spare := fun _ => true) (held := true) byteE (fun x => (0 : Int) ≤ (x.toNat : Int)) Tryz.underlying22 (by kernel_rfl) (el_byte Tryz.underlying5) (hval 0 22 v0 rfl rfl) h0
  obtain ⟨A1, n1, c1, l1, rfl, hn1, hr1, hg1⟩ := open_rd (base := 0) (spare := fun _ => true) (held := true) byteE (fun x => (0 : Int) ≤ (x.toNat : Int)) Tryz.underlying22 (by kernel_rfl) (el_byte Tryz.underlying5) (hval 1 22 v1 rfl rfl) h1
  exact (w_Varnish A0 n0 c0 l0 A1 n1 c1 l1 W hr0 hn0 hg0 hr1 hn1 hg1 hLW).mono fun e W' he => ⟨_, he.1, law_post laid (by kernel_rfl) rfl rfl Tryz.underlying4 (fun | [_, _], _ => rfl) hW' he.2⟩

set_option maxRecDepth 100000 in
theorem lifted (os : Os) (started : os.Started) (H : Type) (enc : TypeId × Value → H) :
    ReturnsInHanded {} Tryz.checked os 3 .any (fun w args => (Rows.fnVarnishSpec.pre enc Tryz.prog Tryz.f3 Rows.fnVarnishRow.domain false w args ∧ laidMetH Tryz.prog Rows.fnVarnishRow.laid w) ∧ sizedMet enc Tryz.prog Tryz.f3 (OpenSpec.ofChange Rows.fnVarnishSpec) false w args) (Rows.fnVarnishSpec.post enc Tryz.prog Tryz.f3 false true false false) := by
  refine returnsInHanded_of_change_laid (C := Tryz.checked) (X := fun w _ => laidMetH Tryz.prog Rows.fnVarnishRow.laid w) (fun _ _ _ hh h => h.of_heap hh) own started (by kernel_rfl) Tryz.func3
    (ChangeSpec.witness_shaped (enc := enc) (C := Tryz.checked) (os := os) (X := fun w _ => laidMetH Tryz.prog Rows.fnVarnishRow.laid w) false (World.laidAll Tryz.prog os Rows.fnVarnishRow.laid) #[.slice none 0 0, .slice none 0 0] 8 (World.laidAll_os _ _ _)
      (World.shaped_of_ZipB (by kernel_rfl) (by kernel_rfl)) (by kernel_rfl) (by kernel_rfl) (by kernel_rfl)
      (by rw [MakeChecks.laidMetH_plain _ _ _ (by kernel_rfl)]; exact laidMet_laidAll _ (by kernel_rfl) (by kernel_rfl))) ?_
  intro W base args ds gs before hval hW hLH hsh
  have hL : laidMet Tryz.prog Rows.fnVarnishRow.laid W := by rw [← MakeChecks.laidMetH_plain _ _ _ (by kernel_rfl)]; exact hLH
  exact contract H enc W base args ds gs before hval hW ⟨max_of hsh, tabW_of hL (.tail _ (.tail _ (.head _))), errW_of hL (.tail _ (.tail _ (.tail _ (.tail _ (.tail _ (.head _)))))) (.tail _ (.tail _ (.tail _ (.tail _ (.head _)))))⟩

theorem holds : Rows.FnVarnishSaid :=
  OpenClaim.holds_of_wide 3 Tryz.f3 rfl rfl rfl rfl rfl rfl rfl ⟨rfl, rfl, rfl, rfl, rfl⟩ rfl rfl rfl rfl rfl (by kernel_rfl) Tryz.func3 (by kernel_rfl)
    (of_decide_eq_true (by kernel_rfl)) (by unfold Func.isWrapper; first | (rw [if_pos (by decide +kernel)]; kernel_rfl) | (rw [if_neg (of_decide_eq_false (by kernel_rfl))]; exact ⟨rfl, rfl⟩))
    (fun os started H enc _ => lifted os started H enc)
theorem proved : Rows.FnVarnishCardSaid :=
  Claim7.holds_tied_plain_at .later [] [.data, .data, .data, .data, .sentinel, .sentinel, .pinned] true (true, "8a57ae0f4e83d6b2a43c295c68219dac77dc891fb4330d93b50f6e086da76fdd") true holds (fun _ h => by cases h) (by kernel_rfl) (fun _ h => by cases h) fnVarnish_row_tie rfl ⟨rfl, rfl⟩ (by kernel_rfl) rfl
    (fun f fn hf hfn => by
      obtain rfl : f = 3 := Option.some.inj ((show Tryz.prog.funcNamed "loop.example/g01061/laws.FnVarnish" = some 3 by kernel_rfl).symm.trans hf) |>.symm
      obtain rfl : fn = Tryz.f3 := (Option.some.inj (Tryz.func3.symm.trans hfn)).symm
      exact ⟨by kernel_rfl, fun j t ht => by
        rw [Tryz.params3] at ht
        have hm : t ∈ [22, 22] := by simpa using Array.mem_of_getElem? ht
        have hall : ([22, 22].all fun u => !Tryz.prog.wantsStandIn u) = true := by kernel_rfl
        exact (show Tryz.prog.wantsStandIn t = false by simpa using List.all_eq_true.1 hall t hm)⟩)
    (by kernel_rfl)

end Go.Proofs.YtbdjhecbingcjaaGreatDoor.fnVarnish
