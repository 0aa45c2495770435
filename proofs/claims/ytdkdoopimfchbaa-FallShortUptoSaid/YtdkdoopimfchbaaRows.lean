/-
  No cell of these rows narrows 'for every input' (looked for: loops, veiled, ifaces, maps, wideKeys, modest, calm, conditions, laid).
  DERIVED. THE GIVEN ROWS OF THIS SEAT. 5 by the template 'for every input the law returns true; each argument reads behind the call as it read before'; 0 by the template 'total and deterministic' (their statements: YtdkdoopimfchbaaTotals.lean).
  GIVEN WITH THE SEED: the statements are not yours to turn. If you find one false, say at which input.
  Laid BY PROGRAM, IN A SANDBOX (cutbox-rows.mjs): the forced cells as the released guide's own fill.sh prints them over the translation cd6ee5c0a00f2742… (all of the seat's roots in one cut). By AI agents, Wed Nov 11 2026. No macro, syntax, notation, axiom, sorry.
-/
import Derived.Test.YtdkdoopimfchbaaChecked
import GoSem.Claim
import GoSem.ClaimJoined
import GoSem.ClaimMapViews
import Derived.JoinedTies
import Derived.KernelRfl
namespace Go.Proofs.Ytdkdoopimfchbaa
/- THE CELL 'sum', in the pinned program and in every row, IS THE sha256 OF THE DUMP (.gsa) THAT YtdkdoopimfchbaaProg.lean LOADS. Nothing in Lean hashes anything: it is a label: what it is worth is what the hold of that sum in a sandbox is worth. -/
noncomputable def Try.pinned : Pinned := { name := "ytdkdoopimfchbaa", sum := "cd6ee5c0a00f27428149000633cef8c7033d04d8a60d82e1f8a9957f75f95960", checked := Try.checked }
namespace Rows
def none {H : Type} : Left H := { results := [], args := [] }

/-- 'bedrocklaw13.FallNext': WHATEVER THE INPUT: true; the input reads as it did. -/
def fallNextSpec : ChangeSpec := { name := "fallNext", fn := fun _ => fun
  | [d] => { results := [.lit (.bool true)], args := [d] }
  | _ => none }
def fallNextRow : OpenClaim := { program := "ytdkdoopimfchbaa", sum := "cd6ee5c0a00f27428149000633cef8c7033d04d8a60d82e1f8a9957f75f95960", func := "bedrock/bedrocklaw13.FallNext", spec := "fallNext", unfollowed := true, recurses := true, apart := false }
def FallNextSaid : Prop := fallNextRow.holds Try.pinned (OpenSpec.ofChange fallNextSpec)

/-- ITS FALSE NEIGHBOUR: 'it returns false'. Refute it at one input. -/
def fallNextWrong : ChangeSpec := { name := "fallNext", fn := fun _ => fun
  | [d] => { results := [.lit (.bool false)], args := [d] }
  | _ => none }
def FallNextWrongFalsely : Prop := fallNextRow.holds Try.pinned (OpenSpec.ofChange fallNextWrong)

/-- 'bedrocklaw13.FallRows': WHATEVER THE INPUT: true; the input reads as it did. -/
def fallRowsSpec : ChangeSpec := { name := "fallRows", fn := fun _ => fun
  | [d] => { results := [.lit (.bool true)], args := [d] }
  | _ => none }
def fallRowsRow : OpenClaim := { program := "ytdkdoopimfchbaa", sum := "cd6ee5c0a00f27428149000633cef8c7033d04d8a60d82e1f8a9957f75f95960", func := "bedrock/bedrocklaw13.FallRows", spec := "fallRows", unfollowed := true, recurses := true, apart := false }
def FallRowsSaid : Prop := fallRowsRow.holds Try.pinned (OpenSpec.ofChange fallRowsSpec)

/-- ITS FALSE NEIGHBOUR: 'it returns false'. Refute it at one input. -/
def fallRowsWrong : ChangeSpec := { name := "fallRows", fn := fun _ => fun
  | [d] => { results := [.lit (.bool false)], args := [d] }
  | _ => none }
def FallRowsWrongFalsely : Prop := fallRowsRow.holds Try.pinned (OpenSpec.ofChange fallRowsWrong)

/-- 'bedrocklaw13.FallKnown': WHATEVER THE INPUT: true; the input reads as it did. -/
def fallKnownSpec : ChangeSpec := { name := "fallKnown", fn := fun _ => fun
  | [] => { results := [.lit (.bool true)], args := [] }
  | _ => none }
def fallKnownRow : OpenClaim := { program := "ytdkdoopimfchbaa", sum := "cd6ee5c0a00f27428149000633cef8c7033d04d8a60d82e1f8a9957f75f95960", func := "bedrock/bedrocklaw13.FallKnown", spec := "fallKnown", unfollowed := true, recurses := true, apart := false }
def FallKnownSaid : Prop := fallKnownRow.holds Try.pinned (OpenSpec.ofChange fallKnownSpec)

/-- ITS FALSE NEIGHBOUR: 'it returns false'. Refute it at one input. -/
def fallKnownWrong : ChangeSpec := { name := "fallKnown", fn := fun _ => fun
  | [] => { results := [.lit (.bool false)], args := [] }
  | _ => none }
def FallKnownWrongFalsely : Prop := fallKnownRow.holds Try.pinned (OpenSpec.ofChange fallKnownWrong)

/-- 'bedrocklaw13.FallSteps': WHATEVER THE INPUT: true; the input reads as it did. -/
def fallStepsSpec : ChangeSpec := { name := "fallSteps", fn := fun _ => fun
  | [d] => { results := [.lit (.bool true)], args := [d] }
  | _ => none }
def fallStepsRow : OpenClaim := { program := "ytdkdoopimfchbaa", sum := "cd6ee5c0a00f27428149000633cef8c7033d04d8a60d82e1f8a9957f75f95960", func := "bedrock/bedrocklaw13.FallSteps", spec := "fallSteps", unfollowed := true, recurses := true, apart := false }
def FallStepsSaid : Prop := fallStepsRow.holds Try.pinned (OpenSpec.ofChange fallStepsSpec)

/-- ITS FALSE NEIGHBOUR: 'it returns false'. Refute it at one input. -/
def fallStepsWrong : ChangeSpec := { name := "fallSteps", fn := fun _ => fun
  | [d] => { results := [.lit (.bool false)], args := [d] }
  | _ => none }
def FallStepsWrongFalsely : Prop := fallStepsRow.holds Try.pinned (OpenSpec.ofChange fallStepsWrong)

/-- 'bedrocklaw13.FallShort': WHATEVER THE INPUT: true; the input reads as it did. -/
def fallShortSpec : ChangeSpec := { name := "fallShort", fn := fun _ => fun
  | [d1, d2] => { results := [.lit (.bool true)], args := [d1, d2] }
  | _ => none }
def fallShortRow : OpenClaim := { program := "ytdkdoopimfchbaa", sum := "cd6ee5c0a00f27428149000633cef8c7033d04d8a60d82e1f8a9957f75f95960", func := "bedrock/bedrocklaw13.FallShort", spec := "fallShort", unfollowed := true, recurses := true, apart := false }
def FallShortSaid : Prop := fallShortRow.holds Try.pinned (OpenSpec.ofChange fallShortSpec)

/-- ITS FALSE NEIGHBOUR: 'it returns false'. Refute it at one input. -/
def fallShortWrong : ChangeSpec := { name := "fallShort", fn := fun _ => fun
  | [d1, d2] => { results := [.lit (.bool false)], args := [d1, d2] }
  | _ => none }
def FallShortWrongFalsely : Prop := fallShortRow.holds Try.pinned (OpenSpec.ofChange fallShortWrong)

/- THE SECOND FORM. 'bulk': how many values and letters a reading holds, each counted each time it is reached (what is shared counts as often as it is met; a slice's spare places count too). A statement '..UptoSaid' is the law's where the arguments, and the package variables that the reading takes, are together of bulk at most 1048576: NARROWER than '..Said'. Prove '..Said' where nothing that the law and all that it calls make is longer than what came in: it says more and counts as full. Else prove '..UptoSaid'. A law counts once. -/
mutual
def uptoBulk {H : Type} : DataW H → Nat
  | .lit (.string bytes) => bytes.length + 1
  | .lit _ => 1
  | .nil => 1
  | .ptr d => uptoBulk d + 1
  | .slice elems spare => uptoBulkAll elems + uptoBulkAll spare + 1
  | .agg parts => uptoBulkAll parts + 1
  | .iface _ d => uptoBulk d + 1
  | .map entries => uptoBulkEntries entries + 1
  | .held _ => 1
def uptoBulkAll {H : Type} : List (DataW H) → Nat
  | [] => 0
  | d :: r => uptoBulk d + uptoBulkAll r
def uptoBulkEntries {H : Type} : List (Lit × DataW H) → Nat
  | [] => 0
  | x :: r => uptoBulkEntry x + uptoBulkEntries r
def uptoBulkEntry {H : Type} : Lit × DataW H → Nat
  | (.string bytes, d) => bytes.length + uptoBulk d + 1
  | (_, d) => uptoBulk d + 1
 end
def uptoSmall : (H : Type) → List (DataW H) → Bool := fun _ ds => decide (uptoBulkAll ds ≤ 1048576)
def OpenSpec.upto (s : _root_.Go.ChangeSpec) : _root_.Go.OpenSpec := { _root_.Go.OpenSpec.ofChange s with cond := some uptoSmall }

/-- 'bedrocklaw13.FallNext', WHERE WHAT IT READS IS OF BULK AT MOST 1048576: true; the input reads as it did. -/
def fallNextUptoRow : OpenClaim := { program := "ytdkdoopimfchbaa", sum := "cd6ee5c0a00f27428149000633cef8c7033d04d8a60d82e1f8a9957f75f95960", func := "bedrock/bedrocklaw13.FallNext", spec := "fallNext", unfollowed := true, recurses := true, apart := false, narrowed := true }
def FallNextUptoSaid : Prop := fallNextUptoRow.holds Try.pinned (OpenSpec.upto fallNextSpec)

/-- 'bedrocklaw13.FallRows', WHERE WHAT IT READS IS OF BULK AT MOST 1048576: true; the input reads as it did. -/
def fallRowsUptoRow : OpenClaim := { program := "ytdkdoopimfchbaa", sum := "cd6ee5c0a00f27428149000633cef8c7033d04d8a60d82e1f8a9957f75f95960", func := "bedrock/bedrocklaw13.FallRows", spec := "fallRows", unfollowed := true, recurses := true, apart := false, narrowed := true }
def FallRowsUptoSaid : Prop := fallRowsUptoRow.holds Try.pinned (OpenSpec.upto fallRowsSpec)

/-- 'bedrocklaw13.FallKnown', WHERE WHAT IT READS IS OF BULK AT MOST 1048576: true; the input reads as it did. -/
def fallKnownUptoRow : OpenClaim := { program := "ytdkdoopimfchbaa", sum := "cd6ee5c0a00f27428149000633cef8c7033d04d8a60d82e1f8a9957f75f95960", func := "bedrock/bedrocklaw13.FallKnown", spec := "fallKnown", unfollowed := true, recurses := true, apart := false, narrowed := true }
def FallKnownUptoSaid : Prop := fallKnownUptoRow.holds Try.pinned (OpenSpec.upto fallKnownSpec)

/-- 'bedrocklaw13.FallSteps', WHERE WHAT IT READS IS OF BULK AT MOST 1048576: true; the input reads as it did. -/
def fallStepsUptoRow : OpenClaim := { program := "ytdkdoopimfchbaa", sum := "cd6ee5c0a00f27428149000633cef8c7033d04d8a60d82e1f8a9957f75f95960", func := "bedrock/bedrocklaw13.FallSteps", spec := "fallSteps", unfollowed := true, recurses := true, apart := false, narrowed := true }
def FallStepsUptoSaid : Prop := fallStepsUptoRow.holds Try.pinned (OpenSpec.upto fallStepsSpec)

/-- 'bedrocklaw13.FallShort', WHERE WHAT IT READS IS OF BULK AT MOST 1048576: true; the input reads as it did. -/
def fallShortUptoRow : OpenClaim := { program := "ytdkdoopimfchbaa", sum := "cd6ee5c0a00f27428149000633cef8c7033d04d8a60d82e1f8a9957f75f95960", func := "bedrock/bedrocklaw13.FallShort", spec := "fallShort", unfollowed := true, recurses := true, apart := false, narrowed := true }
def FallShortUptoSaid : Prop := fallShortUptoRow.holds Try.pinned (OpenSpec.upto fallShortSpec)

end Rows
end Go.Proofs.Ytdkdoopimfchbaa
