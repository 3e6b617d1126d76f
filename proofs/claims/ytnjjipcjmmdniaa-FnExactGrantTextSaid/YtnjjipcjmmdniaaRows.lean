/-
  No cell of these rows narrows 'for every input' (looked for: loops, veiled, ifaces, maps, wideKeys, modest, calm, conditions, laid).
  DERIVED. THE GIVEN ROWS OF THIS SEAT. 6 by the template 'for every input the law returns true; each argument reads behind the call as it read before'; 0 by the template 'total and deterministic' (their statements: YtnjjipcjmmdniaaTotals.lean).
  GIVEN WITH THE SEED: the statements are not yours to turn. If you find one false, say at which input.
  Laid BY PROGRAM, IN A SANDBOX (cutbox-rows.mjs): the forced cells as the released guide's own fill.sh prints them over the translation 5c817e1f661114e3… (all of the seat's roots in one cut). By AI agents, Wed Nov 11 2026. No macro, syntax, notation, axiom, sorry.
-/
import Derived.Test.YtnjjipcjmmdniaaChecked
import GoSem.Claim
import GoSem.ClaimJoined
import GoSem.ClaimMapViews
import Derived.JoinedTies
import Derived.KernelRfl
namespace Go.Proofs.Ytnjjipcjmmdniaa
/- THE CELL 'sum', in the pinned program and in every row, IS THE sha256 OF THE DUMP (.gsa) THAT YtnjjipcjmmdniaaProg.lean LOADS. Nothing in Lean hashes anything: it is a label: what it is worth is what the hold of that sum in a sandbox is worth. -/
noncomputable def Try.pinned : Pinned := { name := "ytnjjipcjmmdniaa", sum := "5c817e1f661114e3fea1f80ab73713831ef0ab1ee368b26f1bb06c69b3b2302a", checked := Try.checked }
namespace Rows
def none {H : Type} : Left H := { results := [], args := [] }

/-- 'laws.FnExactActionName': WHATEVER THE INPUT: true; the input reads as it did. -/
def fnExactActionNameSpec : ChangeSpec := { name := "fnExactActionName", fn := fun _ => fun
  | [d] => { results := [.lit (.bool true)], args := [d] }
  | _ => none }
def fnExactActionNameRow : OpenClaim := { program := "ytnjjipcjmmdniaa", sum := "5c817e1f661114e3fea1f80ab73713831ef0ab1ee368b26f1bb06c69b3b2302a", func := "loop.example/g01061/laws.FnExactActionName", spec := "fnExactActionName", apart := false }
def FnExactActionNameSaid : Prop := fnExactActionNameRow.holds Try.pinned (OpenSpec.ofChange fnExactActionNameSpec)

/-- ITS FALSE NEIGHBOUR: 'it returns false'. Refute it at one input. -/
def fnExactActionNameWrong : ChangeSpec := { name := "fnExactActionName", fn := fun _ => fun
  | [d] => { results := [.lit (.bool false)], args := [d] }
  | _ => none }
def FnExactActionNameWrongFalsely : Prop := fnExactActionNameRow.holds Try.pinned (OpenSpec.ofChange fnExactActionNameWrong)

/-- 'laws.FnExactProblemName': WHATEVER THE INPUT: true; the input reads as it did. -/
def fnExactProblemNameSpec : ChangeSpec := { name := "fnExactProblemName", fn := fun _ => fun
  | [d] => { results := [.lit (.bool true)], args := [d] }
  | _ => none }
def fnExactProblemNameRow : OpenClaim := { program := "ytnjjipcjmmdniaa", sum := "5c817e1f661114e3fea1f80ab73713831ef0ab1ee368b26f1bb06c69b3b2302a", func := "loop.example/g01061/laws.FnExactProblemName", spec := "fnExactProblemName", apart := false }
def FnExactProblemNameSaid : Prop := fnExactProblemNameRow.holds Try.pinned (OpenSpec.ofChange fnExactProblemNameSpec)

/-- ITS FALSE NEIGHBOUR: 'it returns false'. Refute it at one input. -/
def fnExactProblemNameWrong : ChangeSpec := { name := "fnExactProblemName", fn := fun _ => fun
  | [d] => { results := [.lit (.bool false)], args := [d] }
  | _ => none }
def FnExactProblemNameWrongFalsely : Prop := fnExactProblemNameRow.holds Try.pinned (OpenSpec.ofChange fnExactProblemNameWrong)

/-- 'laws.FnExactValidReport': WHATEVER THE INPUT: true; the input reads as it did. -/
def fnExactValidReportSpec : ChangeSpec := { name := "fnExactValidReport", fn := fun _ => fun
  | [d] => { results := [.lit (.bool true)], args := [d] }
  | _ => none }
def fnExactValidReportRow : OpenClaim := { program := "ytnjjipcjmmdniaa", sum := "5c817e1f661114e3fea1f80ab73713831ef0ab1ee368b26f1bb06c69b3b2302a", func := "loop.example/g01061/laws.FnExactValidReport", spec := "fnExactValidReport", unfollowed := true, recurses := true, apart := false }
def FnExactValidReportSaid : Prop := fnExactValidReportRow.holds Try.pinned (OpenSpec.ofChange fnExactValidReportSpec)

/-- ITS FALSE NEIGHBOUR: 'it returns false'. Refute it at one input. -/
def fnExactValidReportWrong : ChangeSpec := { name := "fnExactValidReport", fn := fun _ => fun
  | [d] => { results := [.lit (.bool false)], args := [d] }
  | _ => none }
def FnExactValidReportWrongFalsely : Prop := fnExactValidReportRow.holds Try.pinned (OpenSpec.ofChange fnExactValidReportWrong)

/-- 'laws.FnExactGrantText': WHATEVER THE INPUT: true; the input reads as it did. -/
def fnExactGrantTextSpec : ChangeSpec := { name := "fnExactGrantText", fn := fun _ => fun
  | [d] => { results := [.lit (.bool true)], args := [d] }
  | _ => none }
def fnExactGrantTextRow : OpenClaim := { program := "ytnjjipcjmmdniaa", sum := "5c817e1f661114e3fea1f80ab73713831ef0ab1ee368b26f1bb06c69b3b2302a", func := "loop.example/g01061/laws.FnExactGrantText", spec := "fnExactGrantText", apart := false }
def FnExactGrantTextSaid : Prop := fnExactGrantTextRow.holds Try.pinned (OpenSpec.ofChange fnExactGrantTextSpec)

/-- ITS FALSE NEIGHBOUR: 'it returns false'. Refute it at one input. -/
def fnExactGrantTextWrong : ChangeSpec := { name := "fnExactGrantText", fn := fun _ => fun
  | [d] => { results := [.lit (.bool false)], args := [d] }
  | _ => none }
def FnExactGrantTextWrongFalsely : Prop := fnExactGrantTextRow.holds Try.pinned (OpenSpec.ofChange fnExactGrantTextWrong)

/-- 'laws.FnExactSameBlocks': WHATEVER THE INPUT: true; the input reads as it did. -/
def fnExactSameBlocksSpec : ChangeSpec := { name := "fnExactSameBlocks", fn := fun _ => fun
  | [d1, d2] => { results := [.lit (.bool true)], args := [d1, d2] }
  | _ => none }
def fnExactSameBlocksRow : OpenClaim := { program := "ytnjjipcjmmdniaa", sum := "5c817e1f661114e3fea1f80ab73713831ef0ab1ee368b26f1bb06c69b3b2302a", func := "loop.example/g01061/laws.FnExactSameBlocks", spec := "fnExactSameBlocks", apart := false }
def FnExactSameBlocksSaid : Prop := fnExactSameBlocksRow.holds Try.pinned (OpenSpec.ofChange fnExactSameBlocksSpec)

/-- ITS FALSE NEIGHBOUR: 'it returns false'. Refute it at one input. -/
def fnExactSameBlocksWrong : ChangeSpec := { name := "fnExactSameBlocks", fn := fun _ => fun
  | [d1, d2] => { results := [.lit (.bool false)], args := [d1, d2] }
  | _ => none }
def FnExactSameBlocksWrongFalsely : Prop := fnExactSameBlocksRow.holds Try.pinned (OpenSpec.ofChange fnExactSameBlocksWrong)

/-- 'laws.FnExactReportText': WHATEVER THE INPUT: true; the input reads as it did. -/
def fnExactReportTextSpec : ChangeSpec := { name := "fnExactReportText", fn := fun _ => fun
  | [d] => { results := [.lit (.bool true)], args := [d] }
  | _ => none }
def fnExactReportTextRow : OpenClaim := { program := "ytnjjipcjmmdniaa", sum := "5c817e1f661114e3fea1f80ab73713831ef0ab1ee368b26f1bb06c69b3b2302a", func := "loop.example/g01061/laws.FnExactReportText", spec := "fnExactReportText", unfollowed := true, recurses := true, apart := false }
def FnExactReportTextSaid : Prop := fnExactReportTextRow.holds Try.pinned (OpenSpec.ofChange fnExactReportTextSpec)

/-- ITS FALSE NEIGHBOUR: 'it returns false'. Refute it at one input. -/
def fnExactReportTextWrong : ChangeSpec := { name := "fnExactReportText", fn := fun _ => fun
  | [d] => { results := [.lit (.bool false)], args := [d] }
  | _ => none }
def FnExactReportTextWrongFalsely : Prop := fnExactReportTextRow.holds Try.pinned (OpenSpec.ofChange fnExactReportTextWrong)

/- THE SECOND FORM. 'bulk': how many values and letters a reading holds, each counted each time it is reached (what is shared counts as often as it is met; a slice's spare places count too). A statement '..UptoSaid' is the law's where the arguments, and the package variables that the reading takes, are together of bulk at most 1048576: NARROWER than '..Said'. Prove '..Said' where nothing that the law and all that it calls make is longer than what came in: it says more and counts as full. Else prove '..UptoSaid'. A law counts once. -/
mutual
def uptoBulk {H : Type} : DataW H → Nat
  | .lit (.string bytes) => bytes.length + 1
  | .lit _ => 1
  | .nil => 1
  | .ptr d => uptoBulk d + 1
  | .slice elems spare => uptoBulkAll elems + uptoBulkAll spare + 1
  | .agg parts => uptoBulkAll parts + 1
  | .iface _ d => uptoBulk d + 1
  | .map entries => uptoBulkEntries entries + 1
  | .held _ => 1
def uptoBulkAll {H : Type} : List (DataW H) → Nat
  | [] => 0
  | d :: r => uptoBulk d + uptoBulkAll r
def uptoBulkEntries {H : Type} : List (Lit × DataW H) → Nat
  | [] => 0
  | x :: r => uptoBulkEntry x + uptoBulkEntries r
def uptoBulkEntry {H : Type} : Lit × DataW H → Nat
  | (.string bytes, d) => bytes.length + uptoBulk d + 1
  | (_, d) => uptoBulk d + 1
 end
def uptoSmall : (H : Type) → List (DataW H) → Bool := fun _ ds => decide (uptoBulkAll ds ≤ 1048576)
def OpenSpec.upto (s : _root_.Go.ChangeSpec) : _root_.Go.OpenSpec := { _root_.Go.OpenSpec.ofChange s with cond := some uptoSmall }

/-- 'laws.FnExactActionName', WHERE WHAT IT READS IS OF BULK AT MOST 1048576: true; the input reads as it did. -/
def fnExactActionNameUptoRow : OpenClaim := { program := "ytnjjipcjmmdniaa", sum := "5c817e1f661114e3fea1f80ab73713831ef0ab1ee368b26f1bb06c69b3b2302a", func := "loop.example/g01061/laws.FnExactActionName", spec := "fnExactActionName", apart := false, narrowed := true }
def FnExactActionNameUptoSaid : Prop := fnExactActionNameUptoRow.holds Try.pinned (OpenSpec.upto fnExactActionNameSpec)

/-- 'laws.FnExactProblemName', WHERE WHAT IT READS IS OF BULK AT MOST 1048576: true; the input reads as it did. -/
def fnExactProblemNameUptoRow : OpenClaim := { program := "ytnjjipcjmmdniaa", sum := "5c817e1f661114e3fea1f80ab73713831ef0ab1ee368b26f1bb06c69b3b2302a", func := "loop.example/g01061/laws.FnExactProblemName", spec := "fnExactProblemName", apart := false, narrowed := true }
def FnExactProblemNameUptoSaid : Prop := fnExactProblemNameUptoRow.holds Try.pinned (OpenSpec.upto fnExactProblemNameSpec)

/-- 'laws.FnExactValidReport', WHERE WHAT IT READS IS OF BULK AT MOST 1048576: true; the input reads as it did. -/
def fnExactValidReportUptoRow : OpenClaim := { program := "ytnjjipcjmmdniaa", sum := "5c817e1f661114e3fea1f80ab73713831ef0ab1ee368b26f1bb06c69b3b2302a", func := "loop.example/g01061/laws.FnExactValidReport", spec := "fnExactValidReport", unfollowed := true, recurses := true, apart := false, narrowed := true }
def FnExactValidReportUptoSaid : Prop := fnExactValidReportUptoRow.holds Try.pinned (OpenSpec.upto fnExactValidReportSpec)

/-- 'laws.FnExactGrantText', WHERE WHAT IT READS IS OF BULK AT MOST 1048576: true; the input reads as it did. -/
def fnExactGrantTextUptoRow : OpenClaim := { program := "ytnjjipcjmmdniaa", sum := "5c817e1f661114e3fea1f80ab73713831ef0ab1ee368b26f1bb06c69b3b2302a", func := "loop.example/g01061/laws.FnExactGrantText", spec := "fnExactGrantText", apart := false, narrowed := true }
def FnExactGrantTextUptoSaid : Prop := fnExactGrantTextUptoRow.holds Try.pinned (OpenSpec.upto fnExactGrantTextSpec)

/-- 'laws.FnExactSameBlocks', WHERE WHAT IT READS IS OF BULK AT MOST 1048576: true; the input reads as it did. -/
def fnExactSameBlocksUptoRow : OpenClaim := { program := "ytnjjipcjmmdniaa", sum := "5c817e1f661114e3fea1f80ab73713831ef0ab1ee368b26f1bb06c69b3b2302a", func := "loop.example/g01061/laws.FnExactSameBlocks", spec := "fnExactSameBlocks", apart := false, narrowed := true }
def FnExactSameBlocksUptoSaid : Prop := fnExactSameBlocksUptoRow.holds Try.pinned (OpenSpec.upto fnExactSameBlocksSpec)

/-- 'laws.FnExactReportText', WHERE WHAT IT READS IS OF BULK AT MOST 1048576: true; the input reads as it did. -/
def fnExactReportTextUptoRow : OpenClaim := { program := "ytnjjipcjmmdniaa", sum := "5c817e1f661114e3fea1f80ab73713831ef0ab1ee368b26f1bb06c69b3b2302a", func := "loop.example/g01061/laws.FnExactReportText", spec := "fnExactReportText", unfollowed := true, recurses := true, apart := false, narrowed := true }
def FnExactReportTextUptoSaid : Prop := fnExactReportTextUptoRow.holds Try.pinned (OpenSpec.upto fnExactReportTextSpec)

end Rows
end Go.Proofs.Ytnjjipcjmmdniaa
