/-
  No cell of these rows narrows 'for every input' (looked for: loops, veiled, ifaces, maps, wideKeys, modest, calm, conditions, laid).
  DERIVED. THE GIVEN ROWS OF THIS SEAT. 5 by the template 'for every input the law returns true; each argument reads behind the call as it read before'; 0 by the template 'total and deterministic' (their statements: YtlofiinpgkclgaaTotals.lean).
  GIVEN WITH THE SEED: the statements are not yours to turn. If you find one false, say at which input.
  Laid BY PROGRAM, IN A SANDBOX (cutbox-rows.mjs): the forced cells as the released guide's own fill.sh prints them over the translation a5949ab97813b5fd… (all of the seat's roots in one cut). By AI agents, Wed Nov 11 2026. No macro, syntax, notation, axiom, sorry.
-/
import Derived.Test.YtlofiinpgkclgaaChecked
import GoSem.Claim
import GoSem.ClaimJoined
import GoSem.ClaimMapViews
import Derived.JoinedTies
import Derived.KernelRfl
namespace Go.Proofs.Ytlofiinpgkclgaa
/- THE CELL 'sum', in the pinned program and in every row, IS THE sha256 OF THE DUMP (.gsa) THAT YtlofiinpgkclgaaProg.lean LOADS. Nothing in Lean hashes anything: it is a label: what it is worth is what the hold of that sum in a sandbox is worth. -/
noncomputable def Try.pinned : Pinned := { name := "ytlofiinpgkclgaa", sum := "a5949ab97813b5fdd5b61ef9eaa442c2be679667da19ff376acfc9756e464db0", checked := Try.checked }
namespace Rows
def none {H : Type} : Left H := { results := [], args := [] }

/-- 'baileylaw19.CallNames': WHATEVER THE INPUT: true; the input reads as it did. -/
def callNamesSpec : ChangeSpec := { name := "callNames", fn := fun _ => fun
  | [] => { results := [.lit (.bool true)], args := [] }
  | _ => none }
def callNamesRow : OpenClaim := { program := "ytlofiinpgkclgaa", sum := "a5949ab97813b5fdd5b61ef9eaa442c2be679667da19ff376acfc9756e464db0", func := "bailey/baileylaw19.CallNames", spec := "callNames", unfollowed := true, recurses := true, apart := false }
def CallNamesSaid : Prop := callNamesRow.holds Try.pinned (OpenSpec.ofChange callNamesSpec)

/-- ITS FALSE NEIGHBOUR: 'it returns false'. Refute it at one input. -/
def callNamesWrong : ChangeSpec := { name := "callNames", fn := fun _ => fun
  | [] => { results := [.lit (.bool false)], args := [] }
  | _ => none }
def CallNamesWrongFalsely : Prop := callNamesRow.holds Try.pinned (OpenSpec.ofChange callNamesWrong)

/-- 'baileylaw19.CallWrites': WHATEVER THE INPUT: true; the input reads as it did. -/
def callWritesSpec : ChangeSpec := { name := "callWrites", fn := fun _ => fun
  | [d] => { results := [.lit (.bool true)], args := [d] }
  | _ => none }
def callWritesRow : OpenClaim := { program := "ytlofiinpgkclgaa", sum := "a5949ab97813b5fdd5b61ef9eaa442c2be679667da19ff376acfc9756e464db0", func := "bailey/baileylaw19.CallWrites", spec := "callWrites", unfollowed := true, recurses := true, apart := false }
def CallWritesSaid : Prop := callWritesRow.holds Try.pinned (OpenSpec.ofChange callWritesSpec)

/-- ITS FALSE NEIGHBOUR: 'it returns false'. Refute it at one input. -/
def callWritesWrong : ChangeSpec := { name := "callWrites", fn := fun _ => fun
  | [d] => { results := [.lit (.bool false)], args := [d] }
  | _ => none }
def CallWritesWrongFalsely : Prop := callWritesRow.holds Try.pinned (OpenSpec.ofChange callWritesWrong)

/-- 'baileylaw19.CallReads': WHATEVER THE INPUT: true; the input reads as it did. -/
def callReadsSpec : ChangeSpec := { name := "callReads", fn := fun _ => fun
  | [d] => { results := [.lit (.bool true)], args := [d] }
  | _ => none }
def callReadsRow : OpenClaim := { program := "ytlofiinpgkclgaa", sum := "a5949ab97813b5fdd5b61ef9eaa442c2be679667da19ff376acfc9756e464db0", func := "bailey/baileylaw19.CallReads", spec := "callReads", unfollowed := true, recurses := true, apart := false }
def CallReadsSaid : Prop := callReadsRow.holds Try.pinned (OpenSpec.ofChange callReadsSpec)

/-- ITS FALSE NEIGHBOUR: 'it returns false'. Refute it at one input. -/
def callReadsWrong : ChangeSpec := { name := "callReads", fn := fun _ => fun
  | [d] => { results := [.lit (.bool false)], args := [d] }
  | _ => none }
def CallReadsWrongFalsely : Prop := callReadsRow.holds Try.pinned (OpenSpec.ofChange callReadsWrong)

/-- 'baileylaw19.CallBack': WHATEVER THE INPUT: true; the input reads as it did. -/
def callBackSpec : ChangeSpec := { name := "callBack", fn := fun _ => fun
  | [d1, d2, d3] => { results := [.lit (.bool true)], args := [d1, d2, d3] }
  | _ => none }
def callBackRow : OpenClaim := { program := "ytlofiinpgkclgaa", sum := "a5949ab97813b5fdd5b61ef9eaa442c2be679667da19ff376acfc9756e464db0", func := "bailey/baileylaw19.CallBack", spec := "callBack", unfollowed := true, recurses := true, apart := false }
def CallBackSaid : Prop := callBackRow.holds Try.pinned (OpenSpec.ofChange callBackSpec)

/-- ITS FALSE NEIGHBOUR: 'it returns false'. Refute it at one input. -/
def callBackWrong : ChangeSpec := { name := "callBack", fn := fun _ => fun
  | [d1, d2, d3] => { results := [.lit (.bool false)], args := [d1, d2, d3] }
  | _ => none }
def CallBackWrongFalsely : Prop := callBackRow.holds Try.pinned (OpenSpec.ofChange callBackWrong)

/-- 'baileylaw19.CallApart': WHATEVER THE INPUT: true; the input reads as it did. -/
def callApartSpec : ChangeSpec := { name := "callApart", fn := fun _ => fun
  | [d1, d2, d3] => { results := [.lit (.bool true)], args := [d1, d2, d3] }
  | _ => none }
def callApartRow : OpenClaim := { program := "ytlofiinpgkclgaa", sum := "a5949ab97813b5fdd5b61ef9eaa442c2be679667da19ff376acfc9756e464db0", func := "bailey/baileylaw19.CallApart", spec := "callApart", unfollowed := true, recurses := true, apart := false }
def CallApartSaid : Prop := callApartRow.holds Try.pinned (OpenSpec.ofChange callApartSpec)

/-- ITS FALSE NEIGHBOUR: 'it returns false'. Refute it at one input. -/
def callApartWrong : ChangeSpec := { name := "callApart", fn := fun _ => fun
  | [d1, d2, d3] => { results := [.lit (.bool false)], args := [d1, d2, d3] }
  | _ => none }
def CallApartWrongFalsely : Prop := callApartRow.holds Try.pinned (OpenSpec.ofChange callApartWrong)

/- THE SECOND FORM. 'bulk': how many values and letters a reading holds, each counted each time it is reached (what is shared counts as often as it is met; a slice's spare places count too). A statement '..UptoSaid' is the law's where the arguments, and the package variables that the reading takes, are together of bulk at most 1048576: NARROWER than '..Said'. Prove '..Said' where nothing that the law and all that it calls make is longer than what came in: it says more and counts as full. Else prove '..UptoSaid'. A law counts once. -/
mutual
def uptoBulk {H : Type} : DataW H → Nat
  | .lit (.string bytes) => bytes.length + 1
  | .lit _ => 1
  | .nil => 1
  | .ptr d => uptoBulk d + 1
  | .slice elems spare => uptoBulkAll elems + uptoBulkAll spare + 1
  | .agg parts => uptoBulkAll parts + 1
  | .iface _ d => uptoBulk d + 1
  | .map entries => uptoBulkEntries entries + 1
  | .held _ => 1
def uptoBulkAll {H : Type} : List (DataW H) → Nat
  | [] => 0
  | d :: r => uptoBulk d + uptoBulkAll r
def uptoBulkEntries {H : Type} : List (Lit × DataW H) → Nat
  | [] => 0
  | x :: r => uptoBulkEntry x + uptoBulkEntries r
def uptoBulkEntry {H : Type} : Lit × DataW H → Nat
  | (.string bytes, d) => bytes.length + uptoBulk d + 1
  | (_, d) => uptoBulk d + 1
 end
def uptoSmall : (H : Type) → List (DataW H) → Bool := fun _ ds => decide (uptoBulkAll ds ≤ 1048576)
def OpenSpec.upto (s : _root_.Go.ChangeSpec) : _root_.Go.OpenSpec := { _root_.Go.OpenSpec.ofChange s with cond := some uptoSmall }

/-- 'baileylaw19.CallNames', WHERE WHAT IT READS IS OF BULK AT MOST 1048576: true; the input reads as it did. -/
def callNamesUptoRow : OpenClaim := { program := "ytlofiinpgkclgaa", sum := "a5949ab97813b5fdd5b61ef9eaa442c2be679667da19ff376acfc9756e464db0", func := "bailey/baileylaw19.CallNames", spec := "callNames", unfollowed := true, recurses := true, apart := false, narrowed := true }
def CallNamesUptoSaid : Prop := callNamesUptoRow.holds Try.pinned (OpenSpec.upto callNamesSpec)

/-- 'baileylaw19.CallWrites', WHERE WHAT IT READS IS OF BULK AT MOST 1048576: true; the input reads as it did. -/
def callWritesUptoRow : OpenClaim := { program := "ytlofiinpgkclgaa", sum := "a5949ab97813b5fdd5b61ef9eaa442c2be679667da19ff376acfc9756e464db0", func := "bailey/baileylaw19.CallWrites", spec := "callWrites", unfollowed := true, recurses := true, apart := false, narrowed := true }
def CallWritesUptoSaid : Prop := callWritesUptoRow.holds Try.pinned (OpenSpec.upto callWritesSpec)

/-- 'baileylaw19.CallReads', WHERE WHAT IT READS IS OF BULK AT MOST 1048576: true; the input reads as it did. -/
def callReadsUptoRow : OpenClaim := { program := "ytlofiinpgkclgaa", sum := "a5949ab97813b5fdd5b61ef9eaa442c2be679667da19ff376acfc9756e464db0", func := "bailey/baileylaw19.CallReads", spec := "callReads", unfollowed := true, recurses := true, apart := false, narrowed := true }
def CallReadsUptoSaid : Prop := callReadsUptoRow.holds Try.pinned (OpenSpec.upto callReadsSpec)

/-- 'baileylaw19.CallBack', WHERE WHAT IT READS IS OF BULK AT MOST 1048576: true; the input reads as it did. -/
def callBackUptoRow : OpenClaim := { program := "ytlofiinpgkclgaa", sum := "a5949ab97813b5fdd5b61ef9eaa442c2be679667da19ff376acfc9756e464db0", func := "bailey/baileylaw19.CallBack", spec := "callBack", unfollowed := true, recurses := true, apart := false, narrowed := true }
def CallBackUptoSaid : Prop := callBackUptoRow.holds Try.pinned (OpenSpec.upto callBackSpec)

/-- 'baileylaw19.CallApart', WHERE WHAT IT READS IS OF BULK AT MOST 1048576: true; the input reads as it did. -/
def callApartUptoRow : OpenClaim := { program := "ytlofiinpgkclgaa", sum := "a5949ab97813b5fdd5b61ef9eaa442c2be679667da19ff376acfc9756e464db0", func := "bailey/baileylaw19.CallApart", spec := "callApart", unfollowed := true, recurses := true, apart := false, narrowed := true }
def CallApartUptoSaid : Prop := callApartUptoRow.holds Try.pinned (OpenSpec.upto callApartSpec)

end Rows
end Go.Proofs.Ytlofiinpgkclgaa
