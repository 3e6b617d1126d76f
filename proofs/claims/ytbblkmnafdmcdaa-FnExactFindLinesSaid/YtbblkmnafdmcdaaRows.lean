/-
  No cell of these rows narrows 'for every input' (looked for: loops, veiled, ifaces, maps, wideKeys, modest, calm, conditions, laid).
  DERIVED. THE GIVEN ROWS OF THIS SEAT. 4 by the template 'for every input the law returns true; each argument reads behind the call as it read before'; 0 by the template 'total and deterministic' (their statements: YtbblkmnafdmcdaaTotals.lean).
  GIVEN WITH THE SEED: the statements are not yours to turn. If you find one false, say at which input.
  Laid BY PROGRAM, IN A SANDBOX (cutbox-rows.mjs): the forced cells as the released guide's own fill.sh prints them over the translation c595d83445997a1d… (all of the seat's roots in one cut). By AI agents, Wed Nov 11 2026. No macro, syntax, notation, axiom, sorry.
-/
import Derived.Test.YtbblkmnafdmcdaaChecked
import GoSem.Claim
import GoSem.ClaimJoined
import GoSem.ClaimMapViews
import Derived.JoinedTies
import Derived.KernelRfl
namespace Go.Proofs.Ytbblkmnafdmcdaa
/- THE CELL 'sum', in the pinned program and in every row, IS THE sha256 OF THE DUMP (.gsa) THAT YtbblkmnafdmcdaaProg.lean LOADS. Nothing in Lean hashes anything: it is a label: what it is worth is what the hold of that sum in a sandbox is worth. -/
noncomputable def Try.pinned : Pinned := { name := "ytbblkmnafdmcdaa", sum := "c595d83445997a1db3a784396fc1db31c90c47b68985397835a87f2c7eadecb7", checked := Try.checked }
namespace Rows
def none {H : Type} : Left H := { results := [], args := [] }

/-- 'laws.FnExactPagesOf': WHATEVER THE INPUT: true; the input reads as it did. -/
def fnExactPagesOfSpec : ChangeSpec := { name := "fnExactPagesOf", fn := fun _ => fun
  | [d1, d2, d3] => { results := [.lit (.bool true)], args := [d1, d2, d3] }
  | _ => none }
def fnExactPagesOfRow : OpenClaim := { program := "ytbblkmnafdmcdaa", sum := "c595d83445997a1db3a784396fc1db31c90c47b68985397835a87f2c7eadecb7", func := "loop.example/g01061/laws.FnExactPagesOf", spec := "fnExactPagesOf", unfollowed := true, recurses := true, apart := false }
def FnExactPagesOfSaid : Prop := fnExactPagesOfRow.holds Try.pinned (OpenSpec.ofChange fnExactPagesOfSpec)

/-- ITS FALSE NEIGHBOUR: 'it returns false'. Refute it at one input. -/
def fnExactPagesOfWrong : ChangeSpec := { name := "fnExactPagesOf", fn := fun _ => fun
  | [d1, d2, d3] => { results := [.lit (.bool false)], args := [d1, d2, d3] }
  | _ => none }
def FnExactPagesOfWrongFalsely : Prop := fnExactPagesOfRow.holds Try.pinned (OpenSpec.ofChange fnExactPagesOfWrong)

/-- 'laws.FnExactFindLines': WHATEVER THE INPUT: true; the input reads as it did. -/
def fnExactFindLinesSpec : ChangeSpec := { name := "fnExactFindLines", fn := fun _ => fun
  | [d1, d2] => { results := [.lit (.bool true)], args := [d1, d2] }
  | _ => none }
def fnExactFindLinesRow : OpenClaim := { program := "ytbblkmnafdmcdaa", sum := "c595d83445997a1db3a784396fc1db31c90c47b68985397835a87f2c7eadecb7", func := "loop.example/g01061/laws.FnExactFindLines", spec := "fnExactFindLines", inPlace := ["internal/bytealg.IndexByteString", "internal/bytealg.IndexString"], unfollowed := true, recurses := true, named := ["internal/bytealg.MaxLen"], apart := false }
def FnExactFindLinesSaid : Prop := fnExactFindLinesRow.holds Try.pinned (OpenSpec.ofChange fnExactFindLinesSpec)

/-- ITS FALSE NEIGHBOUR: 'it returns false'. Refute it at one input. -/
def fnExactFindLinesWrong : ChangeSpec := { name := "fnExactFindLines", fn := fun _ => fun
  | [d1, d2] => { results := [.lit (.bool false)], args := [d1, d2] }
  | _ => none }
def FnExactFindLinesWrongFalsely : Prop := fnExactFindLinesRow.holds Try.pinned (OpenSpec.ofChange fnExactFindLinesWrong)

/-- 'laws.FnExactSortLines': WHATEVER THE INPUT: true; the input reads as it did. -/
def fnExactSortLinesSpec : ChangeSpec := { name := "fnExactSortLines", fn := fun _ => fun
  | [d] => { results := [.lit (.bool true)], args := [d] }
  | _ => none }
def fnExactSortLinesRow : OpenClaim := { program := "ytbblkmnafdmcdaa", sum := "c595d83445997a1db3a784396fc1db31c90c47b68985397835a87f2c7eadecb7", func := "loop.example/g01061/laws.FnExactSortLines", spec := "fnExactSortLines", unfollowed := true, recurses := true, apart := false }
def FnExactSortLinesSaid : Prop := fnExactSortLinesRow.holds Try.pinned (OpenSpec.ofChange fnExactSortLinesSpec)

/-- ITS FALSE NEIGHBOUR: 'it returns false'. Refute it at one input. -/
def fnExactSortLinesWrong : ChangeSpec := { name := "fnExactSortLines", fn := fun _ => fun
  | [d] => { results := [.lit (.bool false)], args := [d] }
  | _ => none }
def FnExactSortLinesWrongFalsely : Prop := fnExactSortLinesRow.holds Try.pinned (OpenSpec.ofChange fnExactSortLinesWrong)

/-- 'laws.FnExactCountLines': WHATEVER THE INPUT: true; the input reads as it did. -/
def fnExactCountLinesSpec : ChangeSpec := { name := "fnExactCountLines", fn := fun _ => fun
  | [d] => { results := [.lit (.bool true)], args := [d] }
  | _ => none }
def fnExactCountLinesRow : OpenClaim := { program := "ytbblkmnafdmcdaa", sum := "c595d83445997a1db3a784396fc1db31c90c47b68985397835a87f2c7eadecb7", func := "loop.example/g01061/laws.FnExactCountLines", spec := "fnExactCountLines", unfollowed := true, recurses := true, apart := false }
def FnExactCountLinesSaid : Prop := fnExactCountLinesRow.holds Try.pinned (OpenSpec.ofChange fnExactCountLinesSpec)

/-- ITS FALSE NEIGHBOUR: 'it returns false'. Refute it at one input. -/
def fnExactCountLinesWrong : ChangeSpec := { name := "fnExactCountLines", fn := fun _ => fun
  | [d] => { results := [.lit (.bool false)], args := [d] }
  | _ => none }
def FnExactCountLinesWrongFalsely : Prop := fnExactCountLinesRow.holds Try.pinned (OpenSpec.ofChange fnExactCountLinesWrong)

/- THE SECOND FORM. 'bulk': how many values and letters a reading holds, each counted each time it is reached (what is shared counts as often as it is met; a slice's spare places count too). A statement '..UptoSaid' is the law's where the arguments, and the package variables that the reading takes, are together of bulk at most 1048576: NARROWER than '..Said'. Prove '..Said' where nothing that the law and all that it calls make is longer than what came in: it says more and counts as full. Else prove '..UptoSaid'. A law counts once. -/
mutual
def uptoBulk {H : Type} : DataW H → Nat
  | .lit (.string bytes) => bytes.length + 1
  | .lit _ => 1
  | .nil => 1
  | .ptr d => uptoBulk d + 1
  | .slice elems spare => uptoBulkAll elems + uptoBulkAll spare + 1
  | .agg parts => uptoBulkAll parts + 1
  | .iface _ d => uptoBulk d + 1
  | .map entries => uptoBulkEntries entries + 1
  | .held _ => 1
def uptoBulkAll {H : Type} : List (DataW H) → Nat
  | [] => 0
  | d :: r => uptoBulk d + uptoBulkAll r
def uptoBulkEntries {H : Type} : List (Lit × DataW H) → Nat
  | [] => 0
  | x :: r => uptoBulkEntry x + uptoBulkEntries r
def uptoBulkEntry {H : Type} : Lit × DataW H → Nat
  | (.string bytes, d) => bytes.length + uptoBulk d + 1
  | (_, d) => uptoBulk d + 1
 end
def uptoSmall : (H : Type) → List (DataW H) → Bool := fun _ ds => decide (uptoBulkAll ds ≤ 1048576)
def OpenSpec.upto (s : _root_.Go.ChangeSpec) : _root_.Go.OpenSpec := { _root_.Go.OpenSpec.ofChange s with cond := some uptoSmall }

/-- 'laws.FnExactPagesOf', WHERE WHAT IT READS IS OF BULK AT MOST 1048576: true; the input reads as it did. -/
def fnExactPagesOfUptoRow : OpenClaim := { program := "ytbblkmnafdmcdaa", sum := "c595d83445997a1db3a784396fc1db31c90c47b68985397835a87f2c7eadecb7", func := "loop.example/g01061/laws.FnExactPagesOf", spec := "fnExactPagesOf", unfollowed := true, recurses := true, apart := false, narrowed := true }
def FnExactPagesOfUptoSaid : Prop := fnExactPagesOfUptoRow.holds Try.pinned (OpenSpec.upto fnExactPagesOfSpec)

/-- 'laws.FnExactFindLines', WHERE WHAT IT READS IS OF BULK AT MOST 1048576: true; the input reads as it did. -/
def fnExactFindLinesUptoRow : OpenClaim := { program := "ytbblkmnafdmcdaa", sum := "c595d83445997a1db3a784396fc1db31c90c47b68985397835a87f2c7eadecb7", func := "loop.example/g01061/laws.FnExactFindLines", spec := "fnExactFindLines", inPlace := ["internal/bytealg.IndexByteString", "internal/bytealg.IndexString"], unfollowed := true, recurses := true, named := ["internal/bytealg.MaxLen"], apart := false, narrowed := true }
def FnExactFindLinesUptoSaid : Prop := fnExactFindLinesUptoRow.holds Try.pinned (OpenSpec.upto fnExactFindLinesSpec)

/-- 'laws.FnExactSortLines', WHERE WHAT IT READS IS OF BULK AT MOST 1048576: true; the input reads as it did. -/
def fnExactSortLinesUptoRow : OpenClaim := { program := "ytbblkmnafdmcdaa", sum := "c595d83445997a1db3a784396fc1db31c90c47b68985397835a87f2c7eadecb7", func := "loop.example/g01061/laws.FnExactSortLines", spec := "fnExactSortLines", unfollowed := true, recurses := true, apart := false, narrowed := true }
def FnExactSortLinesUptoSaid : Prop := fnExactSortLinesUptoRow.holds Try.pinned (OpenSpec.upto fnExactSortLinesSpec)

/-- 'laws.FnExactCountLines', WHERE WHAT IT READS IS OF BULK AT MOST 1048576: true; the input reads as it did. -/
def fnExactCountLinesUptoRow : OpenClaim := { program := "ytbblkmnafdmcdaa", sum := "c595d83445997a1db3a784396fc1db31c90c47b68985397835a87f2c7eadecb7", func := "loop.example/g01061/laws.FnExactCountLines", spec := "fnExactCountLines", unfollowed := true, recurses := true, apart := false, narrowed := true }
def FnExactCountLinesUptoSaid : Prop := fnExactCountLinesUptoRow.holds Try.pinned (OpenSpec.upto fnExactCountLinesSpec)

end Rows
end Go.Proofs.Ytbblkmnafdmcdaa
