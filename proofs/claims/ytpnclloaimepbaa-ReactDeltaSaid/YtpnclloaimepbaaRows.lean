/-
  No cell of these rows narrows 'for every input' (looked for: loops, veiled, ifaces, maps, wideKeys, modest, calm, conditions, laid).
  DERIVED. THE GIVEN ROWS OF THIS SEAT. 5 by the template 'for every input the law returns true; each argument reads behind the call as it read before'; 0 by the template 'total and deterministic' (their statements: YtpnclloaimepbaaTotals.lean).
  GIVEN WITH THE SEED: the statements are not yours to turn. If you find one false, say at which input.
  Laid BY PROGRAM, IN A SANDBOX (cutbox-rows.mjs): the forced cells as the released guide's own fill.sh prints them over the translation 3bda432bc8547bb7… (all of the seat's roots in one cut). By AI agents, Wed Nov 11 2026. No macro, syntax, notation, axiom, sorry.
-/
import Derived.Test.YtpnclloaimepbaaChecked
import GoSem.Claim
import GoSem.ClaimJoined
import GoSem.ClaimMapViews
import Derived.JoinedTies
import Derived.KernelRfl
namespace Go.Proofs.Ytpnclloaimepbaa
/- THE CELL 'sum', in the pinned program and in every row, IS THE sha256 OF THE DUMP (.gsa) THAT YtpnclloaimepbaaProg.lean LOADS. Nothing in Lean hashes anything: it is a label: what it is worth is what the hold of that sum in a sandbox is worth. -/
noncomputable def Try.pinned : Pinned := { name := "ytpnclloaimepbaa", sum := "3bda432bc8547bb7d5177c338fc9739478496fe1a9a4b4c96645dcb81166c241", checked := Try.checked }
namespace Rows
def none {H : Type} : Left H := { results := [], args := [] }

/-- 'bedrocklaw15.ReactNext': WHATEVER THE INPUT: true; the input reads as it did. -/
def reactNextSpec : ChangeSpec := { name := "reactNext", fn := fun _ => fun
  | [d1, d2] => { results := [.lit (.bool true)], args := [d1, d2] }
  | _ => none }
def reactNextRow : OpenClaim := { program := "ytpnclloaimepbaa", sum := "3bda432bc8547bb7d5177c338fc9739478496fe1a9a4b4c96645dcb81166c241", func := "bedrock/bedrocklaw15.ReactNext", spec := "reactNext", unfollowed := true, recurses := true, apart := false }
def ReactNextSaid : Prop := reactNextRow.holds Try.pinned (OpenSpec.ofChange reactNextSpec)

/-- ITS FALSE NEIGHBOUR: 'it returns false'. Refute it at one input. -/
def reactNextWrong : ChangeSpec := { name := "reactNext", fn := fun _ => fun
  | [d1, d2] => { results := [.lit (.bool false)], args := [d1, d2] }
  | _ => none }
def ReactNextWrongFalsely : Prop := reactNextRow.holds Try.pinned (OpenSpec.ofChange reactNextWrong)

/-- 'bedrocklaw15.ReactDelta': WHATEVER THE INPUT: true; the input reads as it did. -/
def reactDeltaSpec : ChangeSpec := { name := "reactDelta", fn := fun _ => fun
  | [d1, d2] => { results := [.lit (.bool true)], args := [d1, d2] }
  | _ => none }
def reactDeltaRow : OpenClaim := { program := "ytpnclloaimepbaa", sum := "3bda432bc8547bb7d5177c338fc9739478496fe1a9a4b4c96645dcb81166c241", func := "bedrock/bedrocklaw15.ReactDelta", spec := "reactDelta", unfollowed := true, recurses := true, apart := false }
def ReactDeltaSaid : Prop := reactDeltaRow.holds Try.pinned (OpenSpec.ofChange reactDeltaSpec)

/-- ITS FALSE NEIGHBOUR: 'it returns false'. Refute it at one input. -/
def reactDeltaWrong : ChangeSpec := { name := "reactDelta", fn := fun _ => fun
  | [d1, d2] => { results := [.lit (.bool false)], args := [d1, d2] }
  | _ => none }
def ReactDeltaWrongFalsely : Prop := reactDeltaRow.holds Try.pinned (OpenSpec.ofChange reactDeltaWrong)

/-- 'bedrocklaw15.ReactKnown': WHATEVER THE INPUT: true; the input reads as it did. -/
def reactKnownSpec : ChangeSpec := { name := "reactKnown", fn := fun _ => fun
  | [] => { results := [.lit (.bool true)], args := [] }
  | _ => none }
def reactKnownRow : OpenClaim := { program := "ytpnclloaimepbaa", sum := "3bda432bc8547bb7d5177c338fc9739478496fe1a9a4b4c96645dcb81166c241", func := "bedrock/bedrocklaw15.ReactKnown", spec := "reactKnown", unfollowed := true, recurses := true, apart := false }
def ReactKnownSaid : Prop := reactKnownRow.holds Try.pinned (OpenSpec.ofChange reactKnownSpec)

/-- ITS FALSE NEIGHBOUR: 'it returns false'. Refute it at one input. -/
def reactKnownWrong : ChangeSpec := { name := "reactKnown", fn := fun _ => fun
  | [] => { results := [.lit (.bool false)], args := [] }
  | _ => none }
def ReactKnownWrongFalsely : Prop := reactKnownRow.holds Try.pinned (OpenSpec.ofChange reactKnownWrong)

/-- 'bedrocklaw15.ReactCounts': WHATEVER THE INPUT: true; the input reads as it did. -/
def reactCountsSpec : ChangeSpec := { name := "reactCounts", fn := fun _ => fun
  | [d] => { results := [.lit (.bool true)], args := [d] }
  | _ => none }
def reactCountsRow : OpenClaim := { program := "ytpnclloaimepbaa", sum := "3bda432bc8547bb7d5177c338fc9739478496fe1a9a4b4c96645dcb81166c241", func := "bedrock/bedrocklaw15.ReactCounts", spec := "reactCounts", unfollowed := true, recurses := true, apart := false }
def ReactCountsSaid : Prop := reactCountsRow.holds Try.pinned (OpenSpec.ofChange reactCountsSpec)

/-- ITS FALSE NEIGHBOUR: 'it returns false'. Refute it at one input. -/
def reactCountsWrong : ChangeSpec := { name := "reactCounts", fn := fun _ => fun
  | [d] => { results := [.lit (.bool false)], args := [d] }
  | _ => none }
def ReactCountsWrongFalsely : Prop := reactCountsRow.holds Try.pinned (OpenSpec.ofChange reactCountsWrong)

/-- 'bedrocklaw15.ReactLittle': WHATEVER THE INPUT: true; the input reads as it did. -/
def reactLittleSpec : ChangeSpec := { name := "reactLittle", fn := fun _ => fun
  | [d1, d2, d3, d4] => { results := [.lit (.bool true)], args := [d1, d2, d3, d4] }
  | _ => none }
def reactLittleRow : OpenClaim := { program := "ytpnclloaimepbaa", sum := "3bda432bc8547bb7d5177c338fc9739478496fe1a9a4b4c96645dcb81166c241", func := "bedrock/bedrocklaw15.ReactLittle", spec := "reactLittle", unfollowed := true, recurses := true, apart := false }
def ReactLittleSaid : Prop := reactLittleRow.holds Try.pinned (OpenSpec.ofChange reactLittleSpec)

/-- ITS FALSE NEIGHBOUR: 'it returns false'. Refute it at one input. -/
def reactLittleWrong : ChangeSpec := { name := "reactLittle", fn := fun _ => fun
  | [d1, d2, d3, d4] => { results := [.lit (.bool false)], args := [d1, d2, d3, d4] }
  | _ => none }
def ReactLittleWrongFalsely : Prop := reactLittleRow.holds Try.pinned (OpenSpec.ofChange reactLittleWrong)

/- THE SECOND FORM. 'bulk': how many values and letters a reading holds, each counted each time it is reached (what is shared counts as often as it is met; a slice's spare places count too). A statement '..UptoSaid' is the law's where the arguments, and the package variables that the reading takes, are together of bulk at most 1048576: NARROWER than '..Said'. Prove '..Said' where nothing that the law and all that it calls make is longer than what came in: it says more and counts as full. Else prove '..UptoSaid'. A law counts once. -/
mutual
def uptoBulk {H : Type} : DataW H → Nat
  | .lit (.string bytes) => bytes.length + 1
  | .lit _ => 1
  | .nil => 1
  | .ptr d => uptoBulk d + 1
  | .slice elems spare => uptoBulkAll elems + uptoBulkAll spare + 1
  | .agg parts => uptoBulkAll parts + 1
  | .iface _ d => uptoBulk d + 1
  | .map entries => uptoBulkEntries entries + 1
  | .held _ => 1
def uptoBulkAll {H : Type} : List (DataW H) → Nat
  | [] => 0
  | d :: r => uptoBulk d + uptoBulkAll r
def uptoBulkEntries {H : Type} : List (Lit × DataW H) → Nat
  | [] => 0
  | x :: r => uptoBulkEntry x + uptoBulkEntries r
def uptoBulkEntry {H : Type} : Lit × DataW H → Nat
  | (.string bytes, d) => bytes.length + uptoBulk d + 1
  | (_, d) => uptoBulk d + 1
 end
def uptoSmall : (H : Type) → List (DataW H) → Bool := fun _ ds => decide (uptoBulkAll ds ≤ 1048576)
def OpenSpec.upto (s : _root_.Go.ChangeSpec) : _root_.Go.OpenSpec := { _root_.Go.OpenSpec.ofChange s with cond := some uptoSmall }

/-- 'bedrocklaw15.ReactNext', WHERE WHAT IT READS IS OF BULK AT MOST 1048576: true; the input reads as it did. -/
def reactNextUptoRow : OpenClaim := { program := "ytpnclloaimepbaa", sum := "3bda432bc8547bb7d5177c338fc9739478496fe1a9a4b4c96645dcb81166c241", func := "bedrock/bedrocklaw15.ReactNext", spec := "reactNext", unfollowed := true, recurses := true, apart := false, narrowed := true }
def ReactNextUptoSaid : Prop := reactNextUptoRow.holds Try.pinned (OpenSpec.upto reactNextSpec)

/-- 'bedrocklaw15.ReactDelta', WHERE WHAT IT READS IS OF BULK AT MOST 1048576: true; the input reads as it did. -/
def reactDeltaUptoRow : OpenClaim := { program := "ytpnclloaimepbaa", sum := "3bda432bc8547bb7d5177c338fc9739478496fe1a9a4b4c96645dcb81166c241", func := "bedrock/bedrocklaw15.ReactDelta", spec := "reactDelta", unfollowed := true, recurses := true, apart := false, narrowed := true }
def ReactDeltaUptoSaid : Prop := reactDeltaUptoRow.holds Try.pinned (OpenSpec.upto reactDeltaSpec)

/-- 'bedrocklaw15.ReactKnown', WHERE WHAT IT READS IS OF BULK AT MOST 1048576: true; the input reads as it did. -/
def reactKnownUptoRow : OpenClaim := { program := "ytpnclloaimepbaa", sum := "3bda432bc8547bb7d5177c338fc9739478496fe1a9a4b4c96645dcb81166c241", func := "bedrock/bedrocklaw15.ReactKnown", spec := "reactKnown", unfollowed := true, recurses := true, apart := false, narrowed := true }
def ReactKnownUptoSaid : Prop := reactKnownUptoRow.holds Try.pinned (OpenSpec.upto reactKnownSpec)

/-- 'bedrocklaw15.ReactCounts', WHERE WHAT IT READS IS OF BULK AT MOST 1048576: true; the input reads as it did. -/
def reactCountsUptoRow : OpenClaim := { program := "ytpnclloaimepbaa", sum := "3bda432bc8547bb7d5177c338fc9739478496fe1a9a4b4c96645dcb81166c241", func := "bedrock/bedrocklaw15.ReactCounts", spec := "reactCounts", unfollowed := true, recurses := true, apart := false, narrowed := true }
def ReactCountsUptoSaid : Prop := reactCountsUptoRow.holds Try.pinned (OpenSpec.upto reactCountsSpec)

/-- 'bedrocklaw15.ReactLittle', WHERE WHAT IT READS IS OF BULK AT MOST 1048576: true; the input reads as it did. -/
def reactLittleUptoRow : OpenClaim := { program := "ytpnclloaimepbaa", sum := "3bda432bc8547bb7d5177c338fc9739478496fe1a9a4b4c96645dcb81166c241", func := "bedrock/bedrocklaw15.ReactLittle", spec := "reactLittle", unfollowed := true, recurses := true, apart := false, narrowed := true }
def ReactLittleUptoSaid : Prop := reactLittleUptoRow.holds Try.pinned (OpenSpec.upto reactLittleSpec)

end Rows
end Go.Proofs.Ytpnclloaimepbaa
