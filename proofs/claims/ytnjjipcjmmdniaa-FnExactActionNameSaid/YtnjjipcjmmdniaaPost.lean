/- The last step of a law's row: it answered true, nothing that lay there before has turned, so each argument reads as it read. -/
import Derived.Test.YtnjjipcjmmdniaaRows
import Derived.Below
import Derived.ChangeSame
import Derived.ProofKit
namespace Go.Proofs.Ytnjjipcjmmdniaa
open Go.RowKit Go.WideShapes Go.ChangeShapes

theorem post_true {H : Type} {enc : TypeId × Value → H} {P : Program} {f : Func} {s : ChangeSpec} {W W' : World} {args : Array Value} {v : Value} {ds gs : List (DataW H)} {before pa pv : List MemPlace}
    (hW : DataW.Whole enc P f.params.toList s.vars false W args.toList ds gs before)
    (hres : ∀ (b : Nat) (sp : Nat → Bool) (hd : Bool), DataW.TrodAll enc P W' b sp hd f.resultTypes.toList (v.resultList f.resultTypes.size) (s.fn H (ds ++ gs)).results [])
    (hargs : ∀ sp : Nat → Bool, (∀ p ∈ before, sp p.block = true) → DataW.TrodAll enc P W' 0 sp true f.params.toList args.toList (s.fn H (ds ++ gs)).args pa)
    (hvars : ∀ sp : Nat → Bool, (∀ p ∈ before, sp p.block = true) → DataW.TrodVars enc P W' sp s.vars (s.fn H (ds ++ gs)).vars pv)
    (hps : before = pa ++ pv) (hb : Below W.heap.size W W') :
    s.post enc P f false true false false W args v W' := by
  have hold : ∀ p ∈ before, (fun b => decide (b < W.heap.size)) p.block = true := fun p hp => decide_eq_true (hW.lt p hp)
  have hframe : W.keptBut W' (fun p => p ∈ before ∧ p ∈ pa ++ pv) := World.keptBut_mono (fun p hp => ⟨hp, by rw [← hps]; exact hp⟩) (hb.frame (· ∈ before))
  refine ⟨ds, gs, before, [], pa, pv, hW, hres _ _ _, hargs _ hold, hvars _ hold, World.keptBut_mono (fun p hp => ⟨hp.1, ?_⟩) hframe, fun h => by cases h⟩
  have := hp.2
  rw [List.mem_append] at this
  exact .inr this
end Go.Proofs.Ytnjjipcjmmdniaa
