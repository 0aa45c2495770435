/-
  No cell of these rows narrows 'for every input' (looked for: loops, veiled, ifaces, maps, wideKeys, modest, calm, conditions, laid).
  DERIVED. THE GIVEN ROWS OF THIS SEAT. 8 by the template 'for every input the law returns true; each argument reads behind the call as it read before'; 0 by the template 'total and deterministic' (their statements: YtahfcfbmhdklbaaTotals.lean).
  GIVEN WITH THE SEED: the statements are not yours to turn. If you find one false, say at which input.
  Laid BY PROGRAM, IN A SANDBOX (cutbox-rows.mjs): the forced cells as the released guide's own fill.sh prints them over the translation 227a18dfeac3efe4… (all of the seat's roots in one cut). By AI agents, Wed Nov 11 2026. No macro, syntax, notation, axiom, sorry.
-/
import Derived.Test.YtahfcfbmhdklbaaChecked
import GoSem.Claim
import GoSem.ClaimJoined
import GoSem.ClaimMapViews
import Derived.JoinedTies
import Derived.KernelRfl
namespace Go.Proofs.Ytahfcfbmhdklbaa
/- THE CELL 'sum', in the pinned program and in every row, IS THE sha256 OF THE DUMP (.gsa) THAT YtahfcfbmhdklbaaProg.lean LOADS. Nothing in Lean hashes anything: it is a label: what it is worth is what the hold of that sum in a sandbox is worth. -/
noncomputable def Try.pinned : Pinned := { name := "ytahfcfbmhdklbaa", sum := "227a18dfeac3efe4e1d7691bcc81e570d982a9dce53374d4fc572f7561644b2f", checked := Try.checked }
namespace Rows
def none {H : Type} : Left H := { results := [], args := [] }

/-- 'bedrocklaw12.FlowWants': WHATEVER THE INPUT: true; the input reads as it did. -/
def flowWantsSpec : ChangeSpec := { name := "flowWants", fn := fun _ => fun
  | [d] => { results := [.lit (.bool true)], args := [d] }
  | _ => none }
def flowWantsRow : OpenClaim := { program := "ytahfcfbmhdklbaa", sum := "227a18dfeac3efe4e1d7691bcc81e570d982a9dce53374d4fc572f7561644b2f", func := "bedrock/bedrocklaw12.FlowWants", spec := "flowWants", unfollowed := true, recurses := true, apart := false }
def FlowWantsSaid : Prop := flowWantsRow.holds Try.pinned (OpenSpec.ofChange flowWantsSpec)

/-- ITS FALSE NEIGHBOUR: 'it returns false'. Refute it at one input. -/
def flowWantsWrong : ChangeSpec := { name := "flowWants", fn := fun _ => fun
  | [d] => { results := [.lit (.bool false)], args := [d] }
  | _ => none }
def FlowWantsWrongFalsely : Prop := flowWantsRow.holds Try.pinned (OpenSpec.ofChange flowWantsWrong)

/-- 'bedrocklaw12.FlowGoes': WHATEVER THE INPUT: true; the input reads as it did. -/
def flowGoesSpec : ChangeSpec := { name := "flowGoes", fn := fun _ => fun
  | [d] => { results := [.lit (.bool true)], args := [d] }
  | _ => none }
def flowGoesRow : OpenClaim := { program := "ytahfcfbmhdklbaa", sum := "227a18dfeac3efe4e1d7691bcc81e570d982a9dce53374d4fc572f7561644b2f", func := "bedrock/bedrocklaw12.FlowGoes", spec := "flowGoes", unfollowed := true, recurses := true, apart := false }
def FlowGoesSaid : Prop := flowGoesRow.holds Try.pinned (OpenSpec.ofChange flowGoesSpec)

/-- ITS FALSE NEIGHBOUR: 'it returns false'. Refute it at one input. -/
def flowGoesWrong : ChangeSpec := { name := "flowGoes", fn := fun _ => fun
  | [d] => { results := [.lit (.bool false)], args := [d] }
  | _ => none }
def FlowGoesWrongFalsely : Prop := flowGoesRow.holds Try.pinned (OpenSpec.ofChange flowGoesWrong)

/-- 'bedrocklaw12.FlowBlind': WHATEVER THE INPUT: true; the input reads as it did. -/
def flowBlindSpec : ChangeSpec := { name := "flowBlind", fn := fun _ => fun
  | [d1, d2, d3] => { results := [.lit (.bool true)], args := [d1, d2, d3] }
  | _ => none }
def flowBlindRow : OpenClaim := { program := "ytahfcfbmhdklbaa", sum := "227a18dfeac3efe4e1d7691bcc81e570d982a9dce53374d4fc572f7561644b2f", func := "bedrock/bedrocklaw12.FlowBlind", spec := "flowBlind", unfollowed := true, recurses := true, apart := false }
def FlowBlindSaid : Prop := flowBlindRow.holds Try.pinned (OpenSpec.ofChange flowBlindSpec)

/-- ITS FALSE NEIGHBOUR: 'it returns false'. Refute it at one input. -/
def flowBlindWrong : ChangeSpec := { name := "flowBlind", fn := fun _ => fun
  | [d1, d2, d3] => { results := [.lit (.bool false)], args := [d1, d2, d3] }
  | _ => none }
def FlowBlindWrongFalsely : Prop := flowBlindRow.holds Try.pinned (OpenSpec.ofChange flowBlindWrong)

/-- 'bedrocklaw12.FlowSoaks': WHATEVER THE INPUT: true; the input reads as it did. -/
def flowSoaksSpec : ChangeSpec := { name := "flowSoaks", fn := fun _ => fun
  | [d] => { results := [.lit (.bool true)], args := [d] }
  | _ => none }
def flowSoaksRow : OpenClaim := { program := "ytahfcfbmhdklbaa", sum := "227a18dfeac3efe4e1d7691bcc81e570d982a9dce53374d4fc572f7561644b2f", func := "bedrock/bedrocklaw12.FlowSoaks", spec := "flowSoaks", unfollowed := true, recurses := true, apart := false }
def FlowSoaksSaid : Prop := flowSoaksRow.holds Try.pinned (OpenSpec.ofChange flowSoaksSpec)

/-- ITS FALSE NEIGHBOUR: 'it returns false'. Refute it at one input. -/
def flowSoaksWrong : ChangeSpec := { name := "flowSoaks", fn := fun _ => fun
  | [d] => { results := [.lit (.bool false)], args := [d] }
  | _ => none }
def FlowSoaksWrongFalsely : Prop := flowSoaksRow.holds Try.pinned (OpenSpec.ofChange flowSoaksWrong)

/-- 'bedrocklaw12.FlowFeeds': WHATEVER THE INPUT: true; the input reads as it did. -/
def flowFeedsSpec : ChangeSpec := { name := "flowFeeds", fn := fun _ => fun
  | [d1, d2] => { results := [.lit (.bool true)], args := [d1, d2] }
  | _ => none }
def flowFeedsRow : OpenClaim := { program := "ytahfcfbmhdklbaa", sum := "227a18dfeac3efe4e1d7691bcc81e570d982a9dce53374d4fc572f7561644b2f", func := "bedrock/bedrocklaw12.FlowFeeds", spec := "flowFeeds", unfollowed := true, recurses := true, apart := false }
def FlowFeedsSaid : Prop := flowFeedsRow.holds Try.pinned (OpenSpec.ofChange flowFeedsSpec)

/-- ITS FALSE NEIGHBOUR: 'it returns false'. Refute it at one input. -/
def flowFeedsWrong : ChangeSpec := { name := "flowFeeds", fn := fun _ => fun
  | [d1, d2] => { results := [.lit (.bool false)], args := [d1, d2] }
  | _ => none }
def FlowFeedsWrongFalsely : Prop := flowFeedsRow.holds Try.pinned (OpenSpec.ofChange flowFeedsWrong)

/-- 'bedrocklaw12.FlowStays': WHATEVER THE INPUT: true; the input reads as it did. -/
def flowStaysSpec : ChangeSpec := { name := "flowStays", fn := fun _ => fun
  | [d1, d2] => { results := [.lit (.bool true)], args := [d1, d2] }
  | _ => none }
def flowStaysRow : OpenClaim := { program := "ytahfcfbmhdklbaa", sum := "227a18dfeac3efe4e1d7691bcc81e570d982a9dce53374d4fc572f7561644b2f", func := "bedrock/bedrocklaw12.FlowStays", spec := "flowStays", unfollowed := true, recurses := true, apart := false }
def FlowStaysSaid : Prop := flowStaysRow.holds Try.pinned (OpenSpec.ofChange flowStaysSpec)

/-- ITS FALSE NEIGHBOUR: 'it returns false'. Refute it at one input. -/
def flowStaysWrong : ChangeSpec := { name := "flowStays", fn := fun _ => fun
  | [d1, d2] => { results := [.lit (.bool false)], args := [d1, d2] }
  | _ => none }
def FlowStaysWrongFalsely : Prop := flowStaysRow.holds Try.pinned (OpenSpec.ofChange flowStaysWrong)

/-- 'bedrocklaw12.FlowDries': WHATEVER THE INPUT: true; the input reads as it did. -/
def flowDriesSpec : ChangeSpec := { name := "flowDries", fn := fun _ => fun
  | [d] => { results := [.lit (.bool true)], args := [d] }
  | _ => none }
def flowDriesRow : OpenClaim := { program := "ytahfcfbmhdklbaa", sum := "227a18dfeac3efe4e1d7691bcc81e570d982a9dce53374d4fc572f7561644b2f", func := "bedrock/bedrocklaw12.FlowDries", spec := "flowDries", unfollowed := true, recurses := true, apart := false }
def FlowDriesSaid : Prop := flowDriesRow.holds Try.pinned (OpenSpec.ofChange flowDriesSpec)

/-- ITS FALSE NEIGHBOUR: 'it returns false'. Refute it at one input. -/
def flowDriesWrong : ChangeSpec := { name := "flowDries", fn := fun _ => fun
  | [d] => { results := [.lit (.bool false)], args := [d] }
  | _ => none }
def FlowDriesWrongFalsely : Prop := flowDriesRow.holds Try.pinned (OpenSpec.ofChange flowDriesWrong)

/-- 'bedrocklaw12.FlowKnown': WHATEVER THE INPUT: true; the input reads as it did. -/
def flowKnownSpec : ChangeSpec := { name := "flowKnown", fn := fun _ => fun
  | [] => { results := [.lit (.bool true)], args := [] }
  | _ => none }
def flowKnownRow : OpenClaim := { program := "ytahfcfbmhdklbaa", sum := "227a18dfeac3efe4e1d7691bcc81e570d982a9dce53374d4fc572f7561644b2f", func := "bedrock/bedrocklaw12.FlowKnown", spec := "flowKnown", unfollowed := true, recurses := true, apart := false }
def FlowKnownSaid : Prop := flowKnownRow.holds Try.pinned (OpenSpec.ofChange flowKnownSpec)

/-- ITS FALSE NEIGHBOUR: 'it returns false'. Refute it at one input. -/
def flowKnownWrong : ChangeSpec := { name := "flowKnown", fn := fun _ => fun
  | [] => { results := [.lit (.bool false)], args := [] }
  | _ => none }
def FlowKnownWrongFalsely : Prop := flowKnownRow.holds Try.pinned (OpenSpec.ofChange flowKnownWrong)

/- THE SECOND FORM. 'bulk': how many values and letters a reading holds, each counted each time it is reached (what is shared counts as often as it is met; a slice's spare places count too). A statement '..UptoSaid' is the law's where the arguments, and the package variables that the reading takes, are together of bulk at most 1048576: NARROWER than '..Said'. Prove '..Said' where nothing that the law and all that it calls make is longer than what came in: it says more and counts as full. Else prove '..UptoSaid'. A law counts once. -/
mutual
def uptoBulk {H : Type} : DataW H → Nat
  | .lit (.string bytes) => bytes.length + 1
  | .lit _ => 1
  | .nil => 1
  | .ptr d => uptoBulk d + 1
  | .slice elems spare => uptoBulkAll elems + uptoBulkAll spare + 1
  | .agg parts => uptoBulkAll parts + 1
  | .iface _ d => uptoBulk d + 1
  | .map entries => uptoBulkEntries entries + 1
  | .held _ => 1
def uptoBulkAll {H : Type} : List (DataW H) → Nat
  | [] => 0
  | d :: r => uptoBulk d + uptoBulkAll r
def uptoBulkEntries {H : Type} : List (Lit × DataW H) → Nat
  | [] => 0
  | x :: r => uptoBulkEntry x + uptoBulkEntries r
def uptoBulkEntry {H : Type} : Lit × DataW H → Nat
  | (.string bytes, d) => bytes.length + uptoBulk d + 1
  | (_, d) => uptoBulk d + 1
 end
def uptoSmall : (H : Type) → List (DataW H) → Bool := fun _ ds => decide (uptoBulkAll ds ≤ 1048576)
def OpenSpec.upto (s : _root_.Go.ChangeSpec) : _root_.Go.OpenSpec := { _root_.Go.OpenSpec.ofChange s with cond := some uptoSmall }

/-- 'bedrocklaw12.FlowWants', WHERE WHAT IT READS IS OF BULK AT MOST 1048576: true; the input reads as it did. -/
def flowWantsUptoRow : OpenClaim := { program := "ytahfcfbmhdklbaa", sum := "227a18dfeac3efe4e1d7691bcc81e570d982a9dce53374d4fc572f7561644b2f", func := "bedrock/bedrocklaw12.FlowWants", spec := "flowWants", unfollowed := true, recurses := true, apart := false, narrowed := true }
def FlowWantsUptoSaid : Prop := flowWantsUptoRow.holds Try.pinned (OpenSpec.upto flowWantsSpec)

/-- 'bedrocklaw12.FlowGoes', WHERE WHAT IT READS IS OF BULK AT MOST 1048576: true; the input reads as it did. -/
def flowGoesUptoRow : OpenClaim := { program := "ytahfcfbmhdklbaa", sum := "227a18dfeac3efe4e1d7691bcc81e570d982a9dce53374d4fc572f7561644b2f", func := "bedrock/bedrocklaw12.FlowGoes", spec := "flowGoes", unfollowed := true, recurses := true, apart := false, narrowed := true }
def FlowGoesUptoSaid : Prop := flowGoesUptoRow.holds Try.pinned (OpenSpec.upto flowGoesSpec)

/-- 'bedrocklaw12.FlowBlind', WHERE WHAT IT READS IS OF BULK AT MOST 1048576: true; the input reads as it did. -/
def flowBlindUptoRow : OpenClaim := { program := "ytahfcfbmhdklbaa", sum := "227a18dfeac3efe4e1d7691bcc81e570d982a9dce53374d4fc572f7561644b2f", func := "bedrock/bedrocklaw12.FlowBlind", spec := "flowBlind", unfollowed := true, recurses := true, apart := false, narrowed := true }
def FlowBlindUptoSaid : Prop := flowBlindUptoRow.holds Try.pinned (OpenSpec.upto flowBlindSpec)

/-- 'bedrocklaw12.FlowSoaks', WHERE WHAT IT READS IS OF BULK AT MOST 1048576: true; the input reads as it did. -/
def flowSoaksUptoRow : OpenClaim := { program := "ytahfcfbmhdklbaa", sum := "227a18dfeac3efe4e1d7691bcc81e570d982a9dce53374d4fc572f7561644b2f", func := "bedrock/bedrocklaw12.FlowSoaks", spec := "flowSoaks", unfollowed := true, recurses := true, apart := false, narrowed := true }
def FlowSoaksUptoSaid : Prop := flowSoaksUptoRow.holds Try.pinned (OpenSpec.upto flowSoaksSpec)

/-- 'bedrocklaw12.FlowFeeds', WHERE WHAT IT READS IS OF BULK AT MOST 1048576: true; the input reads as it did. -/
def flowFeedsUptoRow : OpenClaim := { program := "ytahfcfbmhdklbaa", sum := "227a18dfeac3efe4e1d7691bcc81e570d982a9dce53374d4fc572f7561644b2f", func := "bedrock/bedrocklaw12.FlowFeeds", spec := "flowFeeds", unfollowed := true, recurses := true, apart := false, narrowed := true }
def FlowFeedsUptoSaid : Prop := flowFeedsUptoRow.holds Try.pinned (OpenSpec.upto flowFeedsSpec)

/-- 'bedrocklaw12.FlowStays', WHERE WHAT IT READS IS OF BULK AT MOST 1048576: true; the input reads as it did. -/
def flowStaysUptoRow : OpenClaim := { program := "ytahfcfbmhdklbaa", sum := "227a18dfeac3efe4e1d7691bcc81e570d982a9dce53374d4fc572f7561644b2f", func := "bedrock/bedrocklaw12.FlowStays", spec := "flowStays", unfollowed := true, recurses := true, apart := false, narrowed := true }
def FlowStaysUptoSaid : Prop := flowStaysUptoRow.holds Try.pinned (OpenSpec.upto flowStaysSpec)

/-- 'bedrocklaw12.FlowDries', WHERE WHAT IT READS IS OF BULK AT MOST 1048576: true; the input reads as it did. -/
def flowDriesUptoRow : OpenClaim := { program := "ytahfcfbmhdklbaa", sum := "227a18dfeac3efe4e1d7691bcc81e570d982a9dce53374d4fc572f7561644b2f", func := "bedrock/bedrocklaw12.FlowDries", spec := "flowDries", unfollowed := true, recurses := true, apart := false, narrowed := true }
def FlowDriesUptoSaid : Prop := flowDriesUptoRow.holds Try.pinned (OpenSpec.upto flowDriesSpec)

/-- 'bedrocklaw12.FlowKnown', WHERE WHAT IT READS IS OF BULK AT MOST 1048576: true; the input reads as it did. -/
def flowKnownUptoRow : OpenClaim := { program := "ytahfcfbmhdklbaa", sum := "227a18dfeac3efe4e1d7691bcc81e570d982a9dce53374d4fc572f7561644b2f", func := "bedrock/bedrocklaw12.FlowKnown", spec := "flowKnown", unfollowed := true, recurses := true, apart := false, narrowed := true }
def FlowKnownUptoSaid : Prop := flowKnownUptoRow.holds Try.pinned (OpenSpec.upto flowKnownSpec)

end Rows
end Go.Proofs.Ytahfcfbmhdklbaa
