/-
  No cell of these rows narrows 'for every input' (looked for: loops, veiled, ifaces, maps, wideKeys, modest, calm, conditions, laid).
  DERIVED. THE GIVEN ROWS OF THIS SEAT. 11 by the template 'for every input the law returns true; each argument reads behind the call as it read before'; 0 by the template 'total and deterministic' (their statements: YtepegiklnhoobaaTotals.lean).
  GIVEN WITH THE SEED: the statements are not yours to turn. If you find one false, say at which input.
  Laid BY PROGRAM, IN A SANDBOX (cutbox-rows.mjs): the forced cells as the released guide's own fill.sh prints them over the translation 136607a11bdb212e… (all of the seat's roots in one cut). By AI agents, Wed Nov 11 2026. No macro, syntax, notation, axiom, sorry.
-/
import Derived.Test.YtepegiklnhoobaaChecked
import GoSem.Claim
import GoSem.ClaimJoined
import GoSem.ClaimMapViews
import Derived.JoinedTies
import Derived.KernelRfl
namespace Go.Proofs.Ytepegiklnhoobaa
/- THE CELL 'sum', in the pinned program and in every row, IS THE sha256 OF THE DUMP (.gsa) THAT YtepegiklnhoobaaProg.lean LOADS. Nothing in Lean hashes anything: it is a label: what it is worth is what the hold of that sum in a sandbox is worth. -/
noncomputable def Try.pinned : Pinned := { name := "ytepegiklnhoobaa", sum := "136607a11bdb212e29b9dc7c6dae38d1603039b8966b90876599475aac63e5fa", checked := Try.checked }
namespace Rows
def none {H : Type} : Left H := { results := [], args := [] }

/-- 'laws.FnExactValidRoles': WHATEVER THE INPUT: true; the input reads as it did. -/
def fnExactValidRolesSpec : ChangeSpec := { name := "fnExactValidRoles", fn := fun _ => fun
  | [d] => { results := [.lit (.bool true)], args := [d] }
  | _ => none }
def fnExactValidRolesRow : OpenClaim := { program := "ytepegiklnhoobaa", sum := "136607a11bdb212e29b9dc7c6dae38d1603039b8966b90876599475aac63e5fa", func := "loop.example/g01061/laws.FnExactValidRoles", spec := "fnExactValidRoles", unfollowed := true, recurses := true, plainKeys := false, apart := false }
def FnExactValidRolesSaid : Prop := fnExactValidRolesRow.holds Try.pinned (OpenSpec.ofChange fnExactValidRolesSpec)

/-- ITS FALSE NEIGHBOUR: 'it returns false'. Refute it at one input. -/
def fnExactValidRolesWrong : ChangeSpec := { name := "fnExactValidRoles", fn := fun _ => fun
  | [d] => { results := [.lit (.bool false)], args := [d] }
  | _ => none }
def FnExactValidRolesWrongFalsely : Prop := fnExactValidRolesRow.holds Try.pinned (OpenSpec.ofChange fnExactValidRolesWrong)

/-- 'laws.FnExactRolesUnder': WHATEVER THE INPUT: true; the input reads as it did. -/
def fnExactRolesUnderSpec : ChangeSpec := { name := "fnExactRolesUnder", fn := fun _ => fun
  | [d1, d2] => { results := [.lit (.bool true)], args := [d1, d2] }
  | _ => none }
def fnExactRolesUnderRow : OpenClaim := { program := "ytepegiklnhoobaa", sum := "136607a11bdb212e29b9dc7c6dae38d1603039b8966b90876599475aac63e5fa", func := "loop.example/g01061/laws.FnExactRolesUnder", spec := "fnExactRolesUnder", unfollowed := true, recurses := true, plainKeys := false, apart := false }
def FnExactRolesUnderSaid : Prop := fnExactRolesUnderRow.holds Try.pinned (OpenSpec.ofChange fnExactRolesUnderSpec)

/-- ITS FALSE NEIGHBOUR: 'it returns false'. Refute it at one input. -/
def fnExactRolesUnderWrong : ChangeSpec := { name := "fnExactRolesUnder", fn := fun _ => fun
  | [d1, d2] => { results := [.lit (.bool false)], args := [d1, d2] }
  | _ => none }
def FnExactRolesUnderWrongFalsely : Prop := fnExactRolesUnderRow.holds Try.pinned (OpenSpec.ofChange fnExactRolesUnderWrong)

/-- 'laws.FnExactValidGrants': WHATEVER THE INPUT: true; the input reads as it did. -/
def fnExactValidGrantsSpec : ChangeSpec := { name := "fnExactValidGrants", fn := fun _ => fun
  | [d1, d2] => { results := [.lit (.bool true)], args := [d1, d2] }
  | _ => none }
def fnExactValidGrantsRow : OpenClaim := { program := "ytepegiklnhoobaa", sum := "136607a11bdb212e29b9dc7c6dae38d1603039b8966b90876599475aac63e5fa", func := "loop.example/g01061/laws.FnExactValidGrants", spec := "fnExactValidGrants", inPlace := ["internal/bytealg.abigen_runtime_cmpstring"], unfollowed := true, recurses := true, plainKeys := false, apart := false }
def FnExactValidGrantsSaid : Prop := fnExactValidGrantsRow.holds Try.pinned (OpenSpec.ofChange fnExactValidGrantsSpec)

/-- ITS FALSE NEIGHBOUR: 'it returns false'. Refute it at one input. -/
def fnExactValidGrantsWrong : ChangeSpec := { name := "fnExactValidGrants", fn := fun _ => fun
  | [d1, d2] => { results := [.lit (.bool false)], args := [d1, d2] }
  | _ => none }
def FnExactValidGrantsWrongFalsely : Prop := fnExactValidGrantsRow.holds Try.pinned (OpenSpec.ofChange fnExactValidGrantsWrong)

/-- 'laws.FnExactIsAllowedTo': WHATEVER THE INPUT: true; the input reads as it did. -/
def fnExactIsAllowedToSpec : ChangeSpec := { name := "fnExactIsAllowedTo", fn := fun _ => fun
  | [d1, d2, d3, d4, d5] => { results := [.lit (.bool true)], args := [d1, d2, d3, d4, d5] }
  | _ => none }
def fnExactIsAllowedToRow : OpenClaim := { program := "ytepegiklnhoobaa", sum := "136607a11bdb212e29b9dc7c6dae38d1603039b8966b90876599475aac63e5fa", func := "loop.example/g01061/laws.FnExactIsAllowedTo", spec := "fnExactIsAllowedTo", inPlace := ["internal/bytealg.abigen_runtime_cmpstring"], unfollowed := true, recurses := true, plainKeys := false, apart := false }
def FnExactIsAllowedToSaid : Prop := fnExactIsAllowedToRow.holds Try.pinned (OpenSpec.ofChange fnExactIsAllowedToSpec)

/-- ITS FALSE NEIGHBOUR: 'it returns false'. Refute it at one input. -/
def fnExactIsAllowedToWrong : ChangeSpec := { name := "fnExactIsAllowedTo", fn := fun _ => fun
  | [d1, d2, d3, d4, d5] => { results := [.lit (.bool false)], args := [d1, d2, d3, d4, d5] }
  | _ => none }
def FnExactIsAllowedToWrongFalsely : Prop := fnExactIsAllowedToRow.holds Try.pinned (OpenSpec.ofChange fnExactIsAllowedToWrong)

/-- 'laws.FnExactRevokeGrant': WHATEVER THE INPUT: true; the input reads as it did. -/
def fnExactRevokeGrantSpec : ChangeSpec := { name := "fnExactRevokeGrant", fn := fun _ => fun
  | [d1, d2, d3] => { results := [.lit (.bool true)], args := [d1, d2, d3] }
  | _ => none }
def fnExactRevokeGrantRow : OpenClaim := { program := "ytepegiklnhoobaa", sum := "136607a11bdb212e29b9dc7c6dae38d1603039b8966b90876599475aac63e5fa", func := "loop.example/g01061/laws.FnExactRevokeGrant", spec := "fnExactRevokeGrant", inPlace := ["internal/bytealg.abigen_runtime_cmpstring"], unfollowed := true, recurses := true, plainKeys := false, apart := false }
def FnExactRevokeGrantSaid : Prop := fnExactRevokeGrantRow.holds Try.pinned (OpenSpec.ofChange fnExactRevokeGrantSpec)

/-- ITS FALSE NEIGHBOUR: 'it returns false'. Refute it at one input. -/
def fnExactRevokeGrantWrong : ChangeSpec := { name := "fnExactRevokeGrant", fn := fun _ => fun
  | [d1, d2, d3] => { results := [.lit (.bool false)], args := [d1, d2, d3] }
  | _ => none }
def FnExactRevokeGrantWrongFalsely : Prop := fnExactRevokeGrantRow.holds Try.pinned (OpenSpec.ofChange fnExactRevokeGrantWrong)

/-- 'laws.FnExactMixedDuties': WHATEVER THE INPUT: true; the input reads as it did. -/
def fnExactMixedDutiesSpec : ChangeSpec := { name := "fnExactMixedDuties", fn := fun _ => fun
  | [d1, d2, d3, d4] => { results := [.lit (.bool true)], args := [d1, d2, d3, d4] }
  | _ => none }
def fnExactMixedDutiesRow : OpenClaim := { program := "ytepegiklnhoobaa", sum := "136607a11bdb212e29b9dc7c6dae38d1603039b8966b90876599475aac63e5fa", func := "loop.example/g01061/laws.FnExactMixedDuties", spec := "fnExactMixedDuties", inPlace := ["internal/bytealg.abigen_runtime_cmpstring"], unfollowed := true, recurses := true, plainKeys := false, apart := false }
def FnExactMixedDutiesSaid : Prop := fnExactMixedDutiesRow.holds Try.pinned (OpenSpec.ofChange fnExactMixedDutiesSpec)

/-- ITS FALSE NEIGHBOUR: 'it returns false'. Refute it at one input. -/
def fnExactMixedDutiesWrong : ChangeSpec := { name := "fnExactMixedDuties", fn := fun _ => fun
  | [d1, d2, d3, d4] => { results := [.lit (.bool false)], args := [d1, d2, d3, d4] }
  | _ => none }
def FnExactMixedDutiesWrongFalsely : Prop := fnExactMixedDutiesRow.holds Try.pinned (OpenSpec.ofChange fnExactMixedDutiesWrong)

/-- 'laws.FnExactWhoMay': WHATEVER THE INPUT: true; the input reads as it did. -/
def fnExactWhoMaySpec : ChangeSpec := { name := "fnExactWhoMay", fn := fun _ => fun
  | [d1, d2, d3, d4] => { results := [.lit (.bool true)], args := [d1, d2, d3, d4] }
  | _ => none }
def fnExactWhoMayRow : OpenClaim := { program := "ytepegiklnhoobaa", sum := "136607a11bdb212e29b9dc7c6dae38d1603039b8966b90876599475aac63e5fa", func := "loop.example/g01061/laws.FnExactWhoMay", spec := "fnExactWhoMay", inPlace := ["internal/bytealg.abigen_runtime_cmpstring"], unfollowed := true, recurses := true, plainKeys := false, apart := false }
def FnExactWhoMaySaid : Prop := fnExactWhoMayRow.holds Try.pinned (OpenSpec.ofChange fnExactWhoMaySpec)

/-- ITS FALSE NEIGHBOUR: 'it returns false'. Refute it at one input. -/
def fnExactWhoMayWrong : ChangeSpec := { name := "fnExactWhoMay", fn := fun _ => fun
  | [d1, d2, d3, d4] => { results := [.lit (.bool false)], args := [d1, d2, d3, d4] }
  | _ => none }
def FnExactWhoMayWrongFalsely : Prop := fnExactWhoMayRow.holds Try.pinned (OpenSpec.ofChange fnExactWhoMayWrong)

/-- 'laws.FnExactLeastRole': WHATEVER THE INPUT: true; the input reads as it did. -/
def fnExactLeastRoleSpec : ChangeSpec := { name := "fnExactLeastRole", fn := fun _ => fun
  | [d1, d2, d3, d4] => { results := [.lit (.bool true)], args := [d1, d2, d3, d4] }
  | _ => none }
def fnExactLeastRoleRow : OpenClaim := { program := "ytepegiklnhoobaa", sum := "136607a11bdb212e29b9dc7c6dae38d1603039b8966b90876599475aac63e5fa", func := "loop.example/g01061/laws.FnExactLeastRole", spec := "fnExactLeastRole", inPlace := ["internal/bytealg.abigen_runtime_cmpstring"], unfollowed := true, recurses := true, plainKeys := false, apart := false }
def FnExactLeastRoleSaid : Prop := fnExactLeastRoleRow.holds Try.pinned (OpenSpec.ofChange fnExactLeastRoleSpec)

/-- ITS FALSE NEIGHBOUR: 'it returns false'. Refute it at one input. -/
def fnExactLeastRoleWrong : ChangeSpec := { name := "fnExactLeastRole", fn := fun _ => fun
  | [d1, d2, d3, d4] => { results := [.lit (.bool false)], args := [d1, d2, d3, d4] }
  | _ => none }
def FnExactLeastRoleWrongFalsely : Prop := fnExactLeastRoleRow.holds Try.pinned (OpenSpec.ofChange fnExactLeastRoleWrong)

/-- 'laws.FnExactNeedlessGrants': WHATEVER THE INPUT: true; the input reads as it did. -/
def fnExactNeedlessGrantsSpec : ChangeSpec := { name := "fnExactNeedlessGrants", fn := fun _ => fun
  | [d1, d2] => { results := [.lit (.bool true)], args := [d1, d2] }
  | _ => none }
def fnExactNeedlessGrantsRow : OpenClaim := { program := "ytepegiklnhoobaa", sum := "136607a11bdb212e29b9dc7c6dae38d1603039b8966b90876599475aac63e5fa", func := "loop.example/g01061/laws.FnExactNeedlessGrants", spec := "fnExactNeedlessGrants", inPlace := ["internal/bytealg.abigen_runtime_cmpstring"], unfollowed := true, recurses := true, plainKeys := false, apart := false }
def FnExactNeedlessGrantsSaid : Prop := fnExactNeedlessGrantsRow.holds Try.pinned (OpenSpec.ofChange fnExactNeedlessGrantsSpec)

/-- ITS FALSE NEIGHBOUR: 'it returns false'. Refute it at one input. -/
def fnExactNeedlessGrantsWrong : ChangeSpec := { name := "fnExactNeedlessGrants", fn := fun _ => fun
  | [d1, d2] => { results := [.lit (.bool false)], args := [d1, d2] }
  | _ => none }
def FnExactNeedlessGrantsWrongFalsely : Prop := fnExactNeedlessGrantsRow.holds Try.pinned (OpenSpec.ofChange fnExactNeedlessGrantsWrong)

/-- 'laws.FnExactAddGrant': WHATEVER THE INPUT: true; the input reads as it did. -/
def fnExactAddGrantSpec : ChangeSpec := { name := "fnExactAddGrant", fn := fun _ => fun
  | [d1, d2, d3] => { results := [.lit (.bool true)], args := [d1, d2, d3] }
  | _ => none }
def fnExactAddGrantRow : OpenClaim := { program := "ytepegiklnhoobaa", sum := "136607a11bdb212e29b9dc7c6dae38d1603039b8966b90876599475aac63e5fa", func := "loop.example/g01061/laws.FnExactAddGrant", spec := "fnExactAddGrant", inPlace := ["internal/bytealg.abigen_runtime_cmpstring", "slices.overlaps[loop.example/g01061/impl.Grant]"], unfollowed := true, recurses := true, plainKeys := false, apart := false }
def FnExactAddGrantSaid : Prop := fnExactAddGrantRow.holds Try.pinned (OpenSpec.ofChange fnExactAddGrantSpec)

/-- ITS FALSE NEIGHBOUR: 'it returns false'. Refute it at one input. -/
def fnExactAddGrantWrong : ChangeSpec := { name := "fnExactAddGrant", fn := fun _ => fun
  | [d1, d2, d3] => { results := [.lit (.bool false)], args := [d1, d2, d3] }
  | _ => none }
def FnExactAddGrantWrongFalsely : Prop := fnExactAddGrantRow.holds Try.pinned (OpenSpec.ofChange fnExactAddGrantWrong)

/-- 'laws.FnExactRightsOf': WHATEVER THE INPUT: true; the input reads as it did. -/
def fnExactRightsOfSpec : ChangeSpec := { name := "fnExactRightsOf", fn := fun _ => fun
  | [d1, d2, d3] => { results := [.lit (.bool true)], args := [d1, d2, d3] }
  | _ => none }
def fnExactRightsOfRow : OpenClaim := { program := "ytepegiklnhoobaa", sum := "136607a11bdb212e29b9dc7c6dae38d1603039b8966b90876599475aac63e5fa", func := "loop.example/g01061/laws.FnExactRightsOf", spec := "fnExactRightsOf", inPlace := ["internal/bytealg.abigen_runtime_cmpstring"], unfollowed := true, recurses := true, plainKeys := false, apart := false }
def FnExactRightsOfSaid : Prop := fnExactRightsOfRow.holds Try.pinned (OpenSpec.ofChange fnExactRightsOfSpec)

/-- ITS FALSE NEIGHBOUR: 'it returns false'. Refute it at one input. -/
def fnExactRightsOfWrong : ChangeSpec := { name := "fnExactRightsOf", fn := fun _ => fun
  | [d1, d2, d3] => { results := [.lit (.bool false)], args := [d1, d2, d3] }
  | _ => none }
def FnExactRightsOfWrongFalsely : Prop := fnExactRightsOfRow.holds Try.pinned (OpenSpec.ofChange fnExactRightsOfWrong)

/- THE SECOND FORM. 'bulk': how many values and letters a reading holds, each counted each time it is reached (what is shared counts as often as it is met; a slice's spare places count too). A statement '..UptoSaid' is the law's where the arguments, and the package variables that the reading takes, are together of bulk at most 1048576: NARROWER than '..Said'. Prove '..Said' where nothing that the law and all that it calls make is longer than what came in: it says more and counts as full. Else prove '..UptoSaid'. A law counts once. -/
mutual
def uptoBulk {H : Type} : DataW H → Nat
  | .lit (.string bytes) => bytes.length + 1
  | .lit _ => 1
  | .nil => 1
  | .ptr d => uptoBulk d + 1
  | .slice elems spare => uptoBulkAll elems + uptoBulkAll spare + 1
  | .agg parts => uptoBulkAll parts + 1
  | .iface _ d => uptoBulk d + 1
  | .map entries => uptoBulkEntries entries + 1
  | .held _ => 1
def uptoBulkAll {H : Type} : List (DataW H) → Nat
  | [] => 0
  | d :: r => uptoBulk d + uptoBulkAll r
def uptoBulkEntries {H : Type} : List (Lit × DataW H) → Nat
  | [] => 0
  | x :: r => uptoBulkEntry x + uptoBulkEntries r
def uptoBulkEntry {H : Type} : Lit × DataW H → Nat
  | (.string bytes, d) => bytes.length + uptoBulk d + 1
  | (_, d) => uptoBulk d + 1
 end
def uptoSmall : (H : Type) → List (DataW H) → Bool := fun _ ds => decide (uptoBulkAll ds ≤ 1048576)
def OpenSpec.upto (s : _root_.Go.ChangeSpec) : _root_.Go.OpenSpec := { _root_.Go.OpenSpec.ofChange s with cond := some uptoSmall }

/-- 'laws.FnExactValidRoles', WHERE WHAT IT READS IS OF BULK AT MOST 1048576: true; the input reads as it did. -/
def fnExactValidRolesUptoRow : OpenClaim := { program := "ytepegiklnhoobaa", sum := "136607a11bdb212e29b9dc7c6dae38d1603039b8966b90876599475aac63e5fa", func := "loop.example/g01061/laws.FnExactValidRoles", spec := "fnExactValidRoles", unfollowed := true, recurses := true, plainKeys := false, apart := false, narrowed := true }
def FnExactValidRolesUptoSaid : Prop := fnExactValidRolesUptoRow.holds Try.pinned (OpenSpec.upto fnExactValidRolesSpec)

/-- 'laws.FnExactRolesUnder', WHERE WHAT IT READS IS OF BULK AT MOST 1048576: true; the input reads as it did. -/
def fnExactRolesUnderUptoRow : OpenClaim := { program := "ytepegiklnhoobaa", sum := "136607a11bdb212e29b9dc7c6dae38d1603039b8966b90876599475aac63e5fa", func := "loop.example/g01061/laws.FnExactRolesUnder", spec := "fnExactRolesUnder", unfollowed := true, recurses := true, plainKeys := false, apart := false, narrowed := true }
def FnExactRolesUnderUptoSaid : Prop := fnExactRolesUnderUptoRow.holds Try.pinned (OpenSpec.upto fnExactRolesUnderSpec)

/-- 'laws.FnExactValidGrants', WHERE WHAT IT READS IS OF BULK AT MOST 1048576: true; the input reads as it did. -/
def fnExactValidGrantsUptoRow : OpenClaim := { program := "ytepegiklnhoobaa", sum := "136607a11bdb212e29b9dc7c6dae38d1603039b8966b90876599475aac63e5fa", func := "loop.example/g01061/laws.FnExactValidGrants", spec := "fnExactValidGrants", inPlace := ["internal/bytealg.abigen_runtime_cmpstring"], unfollowed := true, recurses := true, plainKeys := false, apart := false, narrowed := true }
def FnExactValidGrantsUptoSaid : Prop := fnExactValidGrantsUptoRow.holds Try.pinned (OpenSpec.upto fnExactValidGrantsSpec)

/-- 'laws.FnExactIsAllowedTo', WHERE WHAT IT READS IS OF BULK AT MOST 1048576: true; the input reads as it did. -/
def fnExactIsAllowedToUptoRow : OpenClaim := { program := "ytepegiklnhoobaa", sum := "136607a11bdb212e29b9dc7c6dae38d1603039b8966b90876599475aac63e5fa", func := "loop.example/g01061/laws.FnExactIsAllowedTo", spec := "fnExactIsAllowedTo", inPlace := ["internal/bytealg.abigen_runtime_cmpstring"], unfollowed := true, recurses := true, plainKeys := false, apart := false, narrowed := true }
def FnExactIsAllowedToUptoSaid : Prop := fnExactIsAllowedToUptoRow.holds Try.pinned (OpenSpec.upto fnExactIsAllowedToSpec)

/-- 'laws.FnExactRevokeGrant', WHERE WHAT IT READS IS OF BULK AT MOST 1048576: true; the input reads as it did. -/
def fnExactRevokeGrantUptoRow : OpenClaim := { program := "ytepegiklnhoobaa", sum := "136607a11bdb212e29b9dc7c6dae38d1603039b8966b90876599475aac63e5fa", func := "loop.example/g01061/laws.FnExactRevokeGrant", spec := "fnExactRevokeGrant", inPlace := ["internal/bytealg.abigen_runtime_cmpstring"], unfollowed := true, recurses := true, plainKeys := false, apart := false, narrowed := true }
def FnExactRevokeGrantUptoSaid : Prop := fnExactRevokeGrantUptoRow.holds Try.pinned (OpenSpec.upto fnExactRevokeGrantSpec)

/-- 'laws.FnExactMixedDuties', WHERE WHAT IT READS IS OF BULK AT MOST 1048576: true; the input reads as it did. -/
def fnExactMixedDutiesUptoRow : OpenClaim := { program := "ytepegiklnhoobaa", sum := "136607a11bdb212e29b9dc7c6dae38d1603039b8966b90876599475aac63e5fa", func := "loop.example/g01061/laws.FnExactMixedDuties", spec := "fnExactMixedDuties", inPlace := ["internal/bytealg.abigen_runtime_cmpstring"], unfollowed := true, recurses := true, plainKeys := false, apart := false, narrowed := true }
def FnExactMixedDutiesUptoSaid : Prop := fnExactMixedDutiesUptoRow.holds Try.pinned (OpenSpec.upto fnExactMixedDutiesSpec)

/-- 'laws.FnExactWhoMay', WHERE WHAT IT READS IS OF BULK AT MOST 1048576: true; the input reads as it did. -/
def fnExactWhoMayUptoRow : OpenClaim := { program := "ytepegiklnhoobaa", sum := "136607a11bdb212e29b9dc7c6dae38d1603039b8966b90876599475aac63e5fa", func := "loop.example/g01061/laws.FnExactWhoMay", spec := "fnExactWhoMay", inPlace := ["internal/bytealg.abigen_runtime_cmpstring"], unfollowed := true, recurses := true, plainKeys := false, apart := false, narrowed := true }
def FnExactWhoMayUptoSaid : Prop := fnExactWhoMayUptoRow.holds Try.pinned (OpenSpec.upto fnExactWhoMaySpec)

/-- 'laws.FnExactLeastRole', WHERE WHAT IT READS IS OF BULK AT MOST 1048576: true; the input reads as it did. -/
def fnExactLeastRoleUptoRow : OpenClaim := { program := "ytepegiklnhoobaa", sum := "136607a11bdb212e29b9dc7c6dae38d1603039b8966b90876599475aac63e5fa", func := "loop.example/g01061/laws.FnExactLeastRole", spec := "fnExactLeastRole", inPlace := ["internal/bytealg.abigen_runtime_cmpstring"], unfollowed := true, recurses := true, plainKeys := false, apart := false, narrowed := true }
def FnExactLeastRoleUptoSaid : Prop := fnExactLeastRoleUptoRow.holds Try.pinned (OpenSpec.upto fnExactLeastRoleSpec)

/-- 'laws.FnExactNeedlessGrants', WHERE WHAT IT READS IS OF BULK AT MOST 1048576: true; the input reads as it did. -/
def fnExactNeedlessGrantsUptoRow : OpenClaim := { program := "ytepegiklnhoobaa", sum := "136607a11bdb212e29b9dc7c6dae38d1603039b8966b90876599475aac63e5fa", func := "loop.example/g01061/laws.FnExactNeedlessGrants", spec := "fnExactNeedlessGrants", inPlace := ["internal/bytealg.abigen_runtime_cmpstring"], unfollowed := true, recurses := true, plainKeys := false, apart := false, narrowed := true }
def FnExactNeedlessGrantsUptoSaid : Prop := fnExactNeedlessGrantsUptoRow.holds Try.pinned (OpenSpec.upto fnExactNeedlessGrantsSpec)

/-- 'laws.FnExactAddGrant', WHERE WHAT IT READS IS OF BULK AT MOST 1048576: true; the input reads as it did. -/
def fnExactAddGrantUptoRow : OpenClaim := { program := "ytepegiklnhoobaa", sum := "136607a11bdb212e29b9dc7c6dae38d1603039b8966b90876599475aac63e5fa", func := "loop.example/g01061/laws.FnExactAddGrant", spec := "fnExactAddGrant", inPlace := ["internal/bytealg.abigen_runtime_cmpstring", "slices.overlaps[loop.example/g01061/impl.Grant]"], unfollowed := true, recurses := true, plainKeys := false, apart := false, narrowed := true }
def FnExactAddGrantUptoSaid : Prop := fnExactAddGrantUptoRow.holds Try.pinned (OpenSpec.upto fnExactAddGrantSpec)

/-- 'laws.FnExactRightsOf', WHERE WHAT IT READS IS OF BULK AT MOST 1048576: true; the input reads as it did. -/
def fnExactRightsOfUptoRow : OpenClaim := { program := "ytepegiklnhoobaa", sum := "136607a11bdb212e29b9dc7c6dae38d1603039b8966b90876599475aac63e5fa", func := "loop.example/g01061/laws.FnExactRightsOf", spec := "fnExactRightsOf", inPlace := ["internal/bytealg.abigen_runtime_cmpstring"], unfollowed := true, recurses := true, plainKeys := false, apart := false, narrowed := true }
def FnExactRightsOfUptoSaid : Prop := fnExactRightsOfUptoRow.holds Try.pinned (OpenSpec.upto fnExactRightsOfSpec)

end Rows
end Go.Proofs.Ytepegiklnhoobaa
