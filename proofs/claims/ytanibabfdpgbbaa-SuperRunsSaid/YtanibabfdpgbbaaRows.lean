/-
  No cell of these rows narrows 'for every input' (looked for: loops, veiled, ifaces, maps, wideKeys, modest, calm, conditions, laid).
  DERIVED. THE GIVEN ROWS OF THIS SEAT. 6 by the template 'for every input the law returns true; each argument reads behind the call as it read before'; 0 by the template 'total and deterministic' (their statements: YtanibabfdpgbbaaTotals.lean).
  GIVEN WITH THE SEED: the statements are not yours to turn. If you find one false, say at which input.
  Laid BY PROGRAM, IN A SANDBOX (cutbox-rows.mjs): the forced cells as the released guide's own fill.sh prints them over the translation 79e509c856e08010… (all of the seat's roots in one cut). By AI agents, Wed Nov 11 2026. No macro, syntax, notation, axiom, sorry.
-/
import Derived.Test.YtanibabfdpgbbaaChecked
import GoSem.Claim
import GoSem.ClaimJoined
import GoSem.ClaimMapViews
import Derived.JoinedTies
import Derived.KernelRfl
namespace Go.Proofs.Ytanibabfdpgbbaa
/- THE CELL 'sum', in the pinned program and in every row, IS THE sha256 OF THE DUMP (.gsa) THAT YtanibabfdpgbbaaProg.lean LOADS. Nothing in Lean hashes anything: it is a label: what it is worth is what the hold of that sum in a sandbox is worth. -/
noncomputable def Try.pinned : Pinned := { name := "ytanibabfdpgbbaa", sum := "79e509c856e08010e93fbc0a3454dcaa9530df3e328b8e9141f5f3c1c3daa42d", checked := Try.checked }
namespace Rows
def none {H : Type} : Left H := { results := [], args := [] }

/-- 'baileylaw15.SuperNames': WHATEVER THE INPUT: true; the input reads as it did. -/
def superNamesSpec : ChangeSpec := { name := "superNames", fn := fun _ => fun
  | [] => { results := [.lit (.bool true)], args := [] }
  | _ => none }
def superNamesRow : OpenClaim := { program := "ytanibabfdpgbbaa", sum := "79e509c856e08010e93fbc0a3454dcaa9530df3e328b8e9141f5f3c1c3daa42d", func := "bailey/baileylaw15.SuperNames", spec := "superNames", unfollowed := true, recurses := true, apart := false }
def SuperNamesSaid : Prop := superNamesRow.holds Try.pinned (OpenSpec.ofChange superNamesSpec)

/-- ITS FALSE NEIGHBOUR: 'it returns false'. Refute it at one input. -/
def superNamesWrong : ChangeSpec := { name := "superNames", fn := fun _ => fun
  | [] => { results := [.lit (.bool false)], args := [] }
  | _ => none }
def SuperNamesWrongFalsely : Prop := superNamesRow.holds Try.pinned (OpenSpec.ofChange superNamesWrong)

/-- 'baileylaw15.SuperRights': WHATEVER THE INPUT: true; the input reads as it did. -/
def superRightsSpec : ChangeSpec := { name := "superRights", fn := fun _ => fun
  | [d] => { results := [.lit (.bool true)], args := [d] }
  | _ => none }
def superRightsRow : OpenClaim := { program := "ytanibabfdpgbbaa", sum := "79e509c856e08010e93fbc0a3454dcaa9530df3e328b8e9141f5f3c1c3daa42d", func := "bailey/baileylaw15.SuperRights", spec := "superRights", unfollowed := true, recurses := true, apart := false }
def SuperRightsSaid : Prop := superRightsRow.holds Try.pinned (OpenSpec.ofChange superRightsSpec)

/-- ITS FALSE NEIGHBOUR: 'it returns false'. Refute it at one input. -/
def superRightsWrong : ChangeSpec := { name := "superRights", fn := fun _ => fun
  | [d] => { results := [.lit (.bool false)], args := [d] }
  | _ => none }
def SuperRightsWrongFalsely : Prop := superRightsRow.holds Try.pinned (OpenSpec.ofChange superRightsWrong)

/-- 'baileylaw15.SuperReads': WHATEVER THE INPUT: true; the input reads as it did. -/
def superReadsSpec : ChangeSpec := { name := "superReads", fn := fun _ => fun
  | [d1, d2] => { results := [.lit (.bool true)], args := [d1, d2] }
  | _ => none }
def superReadsRow : OpenClaim := { program := "ytanibabfdpgbbaa", sum := "79e509c856e08010e93fbc0a3454dcaa9530df3e328b8e9141f5f3c1c3daa42d", func := "bailey/baileylaw15.SuperReads", spec := "superReads", unfollowed := true, recurses := true, apart := false }
def SuperReadsSaid : Prop := superReadsRow.holds Try.pinned (OpenSpec.ofChange superReadsSpec)

/-- ITS FALSE NEIGHBOUR: 'it returns false'. Refute it at one input. -/
def superReadsWrong : ChangeSpec := { name := "superReads", fn := fun _ => fun
  | [d1, d2] => { results := [.lit (.bool false)], args := [d1, d2] }
  | _ => none }
def SuperReadsWrongFalsely : Prop := superReadsRow.holds Try.pinned (OpenSpec.ofChange superReadsWrong)

/-- 'baileylaw15.SuperKeeps': WHATEVER THE INPUT: true; the input reads as it did. -/
def superKeepsSpec : ChangeSpec := { name := "superKeeps", fn := fun _ => fun
  | [d1, d2, d3] => { results := [.lit (.bool true)], args := [d1, d2, d3] }
  | _ => none }
def superKeepsRow : OpenClaim := { program := "ytanibabfdpgbbaa", sum := "79e509c856e08010e93fbc0a3454dcaa9530df3e328b8e9141f5f3c1c3daa42d", func := "bailey/baileylaw15.SuperKeeps", spec := "superKeeps", unfollowed := true, recurses := true, apart := false }
def SuperKeepsSaid : Prop := superKeepsRow.holds Try.pinned (OpenSpec.ofChange superKeepsSpec)

/-- ITS FALSE NEIGHBOUR: 'it returns false'. Refute it at one input. -/
def superKeepsWrong : ChangeSpec := { name := "superKeeps", fn := fun _ => fun
  | [d1, d2, d3] => { results := [.lit (.bool false)], args := [d1, d2, d3] }
  | _ => none }
def SuperKeepsWrongFalsely : Prop := superKeepsRow.holds Try.pinned (OpenSpec.ofChange superKeepsWrong)

/-- 'baileylaw15.SuperTurns': WHATEVER THE INPUT: true; the input reads as it did. -/
def superTurnsSpec : ChangeSpec := { name := "superTurns", fn := fun _ => fun
  | [d1, d2, d3] => { results := [.lit (.bool true)], args := [d1, d2, d3] }
  | _ => none }
def superTurnsRow : OpenClaim := { program := "ytanibabfdpgbbaa", sum := "79e509c856e08010e93fbc0a3454dcaa9530df3e328b8e9141f5f3c1c3daa42d", func := "bailey/baileylaw15.SuperTurns", spec := "superTurns", unfollowed := true, recurses := true, apart := false }
def SuperTurnsSaid : Prop := superTurnsRow.holds Try.pinned (OpenSpec.ofChange superTurnsSpec)

/-- ITS FALSE NEIGHBOUR: 'it returns false'. Refute it at one input. -/
def superTurnsWrong : ChangeSpec := { name := "superTurns", fn := fun _ => fun
  | [d1, d2, d3] => { results := [.lit (.bool false)], args := [d1, d2, d3] }
  | _ => none }
def SuperTurnsWrongFalsely : Prop := superTurnsRow.holds Try.pinned (OpenSpec.ofChange superTurnsWrong)

/-- 'baileylaw15.SuperRuns': WHATEVER THE INPUT: true; the input reads as it did. -/
def superRunsSpec : ChangeSpec := { name := "superRuns", fn := fun _ => fun
  | [d1, d2, d3] => { results := [.lit (.bool true)], args := [d1, d2, d3] }
  | _ => none }
def superRunsRow : OpenClaim := { program := "ytanibabfdpgbbaa", sum := "79e509c856e08010e93fbc0a3454dcaa9530df3e328b8e9141f5f3c1c3daa42d", func := "bailey/baileylaw15.SuperRuns", spec := "superRuns", unfollowed := true, recurses := true, apart := false }
def SuperRunsSaid : Prop := superRunsRow.holds Try.pinned (OpenSpec.ofChange superRunsSpec)

/-- ITS FALSE NEIGHBOUR: 'it returns false'. Refute it at one input. -/
def superRunsWrong : ChangeSpec := { name := "superRuns", fn := fun _ => fun
  | [d1, d2, d3] => { results := [.lit (.bool false)], args := [d1, d2, d3] }
  | _ => none }
def SuperRunsWrongFalsely : Prop := superRunsRow.holds Try.pinned (OpenSpec.ofChange superRunsWrong)

/- THE SECOND FORM. 'bulk': how many values and letters a reading holds, each counted each time it is reached (what is shared counts as often as it is met; a slice's spare places count too). A statement '..UptoSaid' is the law's where the arguments, and the package variables that the reading takes, are together of bulk at most 1048576: NARROWER than '..Said'. Prove '..Said' where nothing that the law and all that it calls make is longer than what came in: it says more and counts as full. Else prove '..UptoSaid'. A law counts once. -/
mutual
def uptoBulk {H : Type} : DataW H → Nat
  | .lit (.string bytes) => bytes.length + 1
  | .lit _ => 1
  | .nil => 1
  | .ptr d => uptoBulk d + 1
  | .slice elems spare => uptoBulkAll elems + uptoBulkAll spare + 1
  | .agg parts => uptoBulkAll parts + 1
  | .iface _ d => uptoBulk d + 1
  | .map entries => uptoBulkEntries entries + 1
  | .held _ => 1
def uptoBulkAll {H : Type} : List (DataW H) → Nat
  | [] => 0
  | d :: r => uptoBulk d + uptoBulkAll r
def uptoBulkEntries {H : Type} : List (Lit × DataW H) → Nat
  | [] => 0
  | x :: r => uptoBulkEntry x + uptoBulkEntries r
def uptoBulkEntry {H : Type} : Lit × DataW H → Nat
  | (.string bytes, d) => bytes.length + uptoBulk d + 1
  | (_, d) => uptoBulk d + 1
 end
def uptoSmall : (H : Type) → List (DataW H) → Bool := fun _ ds => decide (uptoBulkAll ds ≤ 1048576)
def OpenSpec.upto (s : _root_.Go.ChangeSpec) : _root_.Go.OpenSpec := { _root_.Go.OpenSpec.ofChange s with cond := some uptoSmall }

/-- 'baileylaw15.SuperNames', WHERE WHAT IT READS IS OF BULK AT MOST 1048576: true; the input reads as it did. -/
def superNamesUptoRow : OpenClaim := { program := "ytanibabfdpgbbaa", sum := "79e509c856e08010e93fbc0a3454dcaa9530df3e328b8e9141f5f3c1c3daa42d", func := "bailey/baileylaw15.SuperNames", spec := "superNames", unfollowed := true, recurses := true, apart := false, narrowed := true }
def SuperNamesUptoSaid : Prop := superNamesUptoRow.holds Try.pinned (OpenSpec.upto superNamesSpec)

/-- 'baileylaw15.SuperRights', WHERE WHAT IT READS IS OF BULK AT MOST 1048576: true; the input reads as it did. -/
def superRightsUptoRow : OpenClaim := { program := "ytanibabfdpgbbaa", sum := "79e509c856e08010e93fbc0a3454dcaa9530df3e328b8e9141f5f3c1c3daa42d", func := "bailey/baileylaw15.SuperRights", spec := "superRights", unfollowed := true, recurses := true, apart := false, narrowed := true }
def SuperRightsUptoSaid : Prop := superRightsUptoRow.holds Try.pinned (OpenSpec.upto superRightsSpec)

/-- 'baileylaw15.SuperReads', WHERE WHAT IT READS IS OF BULK AT MOST 1048576: true; the input reads as it did. -/
def superReadsUptoRow : OpenClaim := { program := "ytanibabfdpgbbaa", sum := "79e509c856e08010e93fbc0a3454dcaa9530df3e328b8e9141f5f3c1c3daa42d", func := "bailey/baileylaw15.SuperReads", spec := "superReads", unfollowed := true, recurses := true, apart := false, narrowed := true }
def SuperReadsUptoSaid : Prop := superReadsUptoRow.holds Try.pinned (OpenSpec.upto superReadsSpec)

/-- 'baileylaw15.SuperKeeps', WHERE WHAT IT READS IS OF BULK AT MOST 1048576: true; the input reads as it did. -/
def superKeepsUptoRow : OpenClaim := { program := "ytanibabfdpgbbaa", sum := "79e509c856e08010e93fbc0a3454dcaa9530df3e328b8e9141f5f3c1c3daa42d", func := "bailey/baileylaw15.SuperKeeps", spec := "superKeeps", unfollowed := true, recurses := true, apart := false, narrowed := true }
def SuperKeepsUptoSaid : Prop := superKeepsUptoRow.holds Try.pinned (OpenSpec.upto superKeepsSpec)

/-- 'baileylaw15.SuperTurns', WHERE WHAT IT READS IS OF BULK AT MOST 1048576: true; the input reads as it did. -/
def superTurnsUptoRow : OpenClaim := { program := "ytanibabfdpgbbaa", sum := "79e509c856e08010e93fbc0a3454dcaa9530df3e328b8e9141f5f3c1c3daa42d", func := "bailey/baileylaw15.SuperTurns", spec := "superTurns", unfollowed := true, recurses := true, apart := false, narrowed := true }
def SuperTurnsUptoSaid : Prop := superTurnsUptoRow.holds Try.pinned (OpenSpec.upto superTurnsSpec)

/-- 'baileylaw15.SuperRuns', WHERE WHAT IT READS IS OF BULK AT MOST 1048576: true; the input reads as it did. -/
def superRunsUptoRow : OpenClaim := { program := "ytanibabfdpgbbaa", sum := "79e509c856e08010e93fbc0a3454dcaa9530df3e328b8e9141f5f3c1c3daa42d", func := "bailey/baileylaw15.SuperRuns", spec := "superRuns", unfollowed := true, recurses := true, apart := false, narrowed := true }
def SuperRunsUptoSaid : Prop := superRunsUptoRow.holds Try.pinned (OpenSpec.upto superRunsSpec)

end Rows
end Go.Proofs.Ytanibabfdpgbbaa
