/-
  No cell of these rows narrows 'for every input' (looked for: loops, veiled, ifaces, maps, wideKeys, modest, calm, conditions, laid).
  DERIVED. THE GIVEN ROWS OF THIS SEAT. 9 by the template 'for every input the law returns true; each argument reads behind the call as it read before'; 0 by the template 'total and deterministic' (their statements: YtmgiabehooghcaaTotals.lean).
  GIVEN WITH THE SEED: the statements are not yours to turn. If you find one false, say at which input.
  Laid BY PROGRAM, IN A SANDBOX (cutbox-rows.mjs): the forced cells as the released guide's own fill.sh prints them over the translation 9b26bbb397fac254… (all of the seat's roots in one cut). By AI agents, Wed Nov 11 2026. No macro, syntax, notation, axiom, sorry.
-/
import Derived.Test.YtmgiabehooghcaaChecked
import GoSem.Claim
import GoSem.ClaimJoined
import GoSem.ClaimMapViews
import Derived.JoinedTies
import Derived.KernelRfl
namespace Go.Proofs.Ytmgiabehooghcaa
/- THE CELL 'sum', in the pinned program and in every row, IS THE sha256 OF THE DUMP (.gsa) THAT YtmgiabehooghcaaProg.lean LOADS. Nothing in Lean hashes anything: it is a label: what it is worth is what the hold of that sum in a sandbox is worth. -/
noncomputable def Try.pinned : Pinned := { name := "ytmgiabehooghcaa", sum := "9b26bbb397fac25452bb62aeeed5f1fec47a4b1ed2b618a2acb4dc8fc3e6ad7e", checked := Try.checked }
namespace Rows
def none {H : Type} : Left H := { results := [], args := [] }

/-- 'bedrocklaw10.GlowLights': WHATEVER THE INPUT: true; the input reads as it did. -/
def glowLightsSpec : ChangeSpec := { name := "glowLights", fn := fun _ => fun
  | [d] => { results := [.lit (.bool true)], args := [d] }
  | _ => none }
def glowLightsRow : OpenClaim := { program := "ytmgiabehooghcaa", sum := "9b26bbb397fac25452bb62aeeed5f1fec47a4b1ed2b618a2acb4dc8fc3e6ad7e", func := "bedrock/bedrocklaw10.GlowLights", spec := "glowLights", unfollowed := true, recurses := true, apart := false }
def GlowLightsSaid : Prop := glowLightsRow.holds Try.pinned (OpenSpec.ofChange glowLightsSpec)

/-- ITS FALSE NEIGHBOUR: 'it returns false'. Refute it at one input. -/
def glowLightsWrong : ChangeSpec := { name := "glowLights", fn := fun _ => fun
  | [d] => { results := [.lit (.bool false)], args := [d] }
  | _ => none }
def GlowLightsWrongFalsely : Prop := glowLightsRow.holds Try.pinned (OpenSpec.ofChange glowLightsWrong)

/-- 'bedrocklaw10.GlowSteps': WHATEVER THE INPUT: true; the input reads as it did. -/
def glowStepsSpec : ChangeSpec := { name := "glowSteps", fn := fun _ => fun
  | [d] => { results := [.lit (.bool true)], args := [d] }
  | _ => none }
def glowStepsRow : OpenClaim := { program := "ytmgiabehooghcaa", sum := "9b26bbb397fac25452bb62aeeed5f1fec47a4b1ed2b618a2acb4dc8fc3e6ad7e", func := "bedrock/bedrocklaw10.GlowSteps", spec := "glowSteps", unfollowed := true, recurses := true, apart := false }
def GlowStepsSaid : Prop := glowStepsRow.holds Try.pinned (OpenSpec.ofChange glowStepsSpec)

/-- ITS FALSE NEIGHBOUR: 'it returns false'. Refute it at one input. -/
def glowStepsWrong : ChangeSpec := { name := "glowSteps", fn := fun _ => fun
  | [d] => { results := [.lit (.bool false)], args := [d] }
  | _ => none }
def GlowStepsWrongFalsely : Prop := glowStepsRow.holds Try.pinned (OpenSpec.ofChange glowStepsWrong)

/-- 'bedrocklaw10.GlowNear': WHATEVER THE INPUT: true; the input reads as it did. -/
def glowNearSpec : ChangeSpec := { name := "glowNear", fn := fun _ => fun
  | [d] => { results := [.lit (.bool true)], args := [d] }
  | _ => none }
def glowNearRow : OpenClaim := { program := "ytmgiabehooghcaa", sum := "9b26bbb397fac25452bb62aeeed5f1fec47a4b1ed2b618a2acb4dc8fc3e6ad7e", func := "bedrock/bedrocklaw10.GlowNear", spec := "glowNear", unfollowed := true, recurses := true, apart := false }
def GlowNearSaid : Prop := glowNearRow.holds Try.pinned (OpenSpec.ofChange glowNearSpec)

/-- ITS FALSE NEIGHBOUR: 'it returns false'. Refute it at one input. -/
def glowNearWrong : ChangeSpec := { name := "glowNear", fn := fun _ => fun
  | [d] => { results := [.lit (.bool false)], args := [d] }
  | _ => none }
def GlowNearWrongFalsely : Prop := glowNearRow.holds Try.pinned (OpenSpec.ofChange glowNearWrong)

/-- 'bedrocklaw10.GlowTorch': WHATEVER THE INPUT: true; the input reads as it did. -/
def glowTorchSpec : ChangeSpec := { name := "glowTorch", fn := fun _ => fun
  | [d1, d2, d3] => { results := [.lit (.bool true)], args := [d1, d2, d3] }
  | _ => none }
def glowTorchRow : OpenClaim := { program := "ytmgiabehooghcaa", sum := "9b26bbb397fac25452bb62aeeed5f1fec47a4b1ed2b618a2acb4dc8fc3e6ad7e", func := "bedrock/bedrocklaw10.GlowTorch", spec := "glowTorch", unfollowed := true, recurses := true, apart := false }
def GlowTorchSaid : Prop := glowTorchRow.holds Try.pinned (OpenSpec.ofChange glowTorchSpec)

/-- ITS FALSE NEIGHBOUR: 'it returns false'. Refute it at one input. -/
def glowTorchWrong : ChangeSpec := { name := "glowTorch", fn := fun _ => fun
  | [d1, d2, d3] => { results := [.lit (.bool false)], args := [d1, d2, d3] }
  | _ => none }
def GlowTorchWrongFalsely : Prop := glowTorchRow.holds Try.pinned (OpenSpec.ofChange glowTorchWrong)

/-- 'bedrocklaw10.GlowStone': WHATEVER THE INPUT: true; the input reads as it did. -/
def glowStoneSpec : ChangeSpec := { name := "glowStone", fn := fun _ => fun
  | [d1, d2] => { results := [.lit (.bool true)], args := [d1, d2] }
  | _ => none }
def glowStoneRow : OpenClaim := { program := "ytmgiabehooghcaa", sum := "9b26bbb397fac25452bb62aeeed5f1fec47a4b1ed2b618a2acb4dc8fc3e6ad7e", func := "bedrock/bedrocklaw10.GlowStone", spec := "glowStone", unfollowed := true, recurses := true, apart := false }
def GlowStoneSaid : Prop := glowStoneRow.holds Try.pinned (OpenSpec.ofChange glowStoneSpec)

/-- ITS FALSE NEIGHBOUR: 'it returns false'. Refute it at one input. -/
def glowStoneWrong : ChangeSpec := { name := "glowStone", fn := fun _ => fun
  | [d1, d2] => { results := [.lit (.bool false)], args := [d1, d2] }
  | _ => none }
def GlowStoneWrongFalsely : Prop := glowStoneRow.holds Try.pinned (OpenSpec.ofChange glowStoneWrong)

/-- 'bedrocklaw10.GlowLamp': WHATEVER THE INPUT: true; the input reads as it did. -/
def glowLampSpec : ChangeSpec := { name := "glowLamp", fn := fun _ => fun
  | [d1, d2] => { results := [.lit (.bool true)], args := [d1, d2] }
  | _ => none }
def glowLampRow : OpenClaim := { program := "ytmgiabehooghcaa", sum := "9b26bbb397fac25452bb62aeeed5f1fec47a4b1ed2b618a2acb4dc8fc3e6ad7e", func := "bedrock/bedrocklaw10.GlowLamp", spec := "glowLamp", unfollowed := true, recurses := true, apart := false }
def GlowLampSaid : Prop := glowLampRow.holds Try.pinned (OpenSpec.ofChange glowLampSpec)

/-- ITS FALSE NEIGHBOUR: 'it returns false'. Refute it at one input. -/
def glowLampWrong : ChangeSpec := { name := "glowLamp", fn := fun _ => fun
  | [d1, d2] => { results := [.lit (.bool false)], args := [d1, d2] }
  | _ => none }
def GlowLampWrongFalsely : Prop := glowLampRow.holds Try.pinned (OpenSpec.ofChange glowLampWrong)

/-- 'bedrocklaw10.GlowTurned': WHATEVER THE INPUT: true; the input reads as it did. -/
def glowTurnedSpec : ChangeSpec := { name := "glowTurned", fn := fun _ => fun
  | [d] => { results := [.lit (.bool true)], args := [d] }
  | _ => none }
def glowTurnedRow : OpenClaim := { program := "ytmgiabehooghcaa", sum := "9b26bbb397fac25452bb62aeeed5f1fec47a4b1ed2b618a2acb4dc8fc3e6ad7e", func := "bedrock/bedrocklaw10.GlowTurned", spec := "glowTurned", unfollowed := true, recurses := true, apart := false }
def GlowTurnedSaid : Prop := glowTurnedRow.holds Try.pinned (OpenSpec.ofChange glowTurnedSpec)

/-- ITS FALSE NEIGHBOUR: 'it returns false'. Refute it at one input. -/
def glowTurnedWrong : ChangeSpec := { name := "glowTurned", fn := fun _ => fun
  | [d] => { results := [.lit (.bool false)], args := [d] }
  | _ => none }
def GlowTurnedWrongFalsely : Prop := glowTurnedRow.holds Try.pinned (OpenSpec.ofChange glowTurnedWrong)

/-- 'bedrocklaw10.GlowKnown': WHATEVER THE INPUT: true; the input reads as it did. -/
def glowKnownSpec : ChangeSpec := { name := "glowKnown", fn := fun _ => fun
  | [] => { results := [.lit (.bool true)], args := [] }
  | _ => none }
def glowKnownRow : OpenClaim := { program := "ytmgiabehooghcaa", sum := "9b26bbb397fac25452bb62aeeed5f1fec47a4b1ed2b618a2acb4dc8fc3e6ad7e", func := "bedrock/bedrocklaw10.GlowKnown", spec := "glowKnown", unfollowed := true, recurses := true, apart := false }
def GlowKnownSaid : Prop := glowKnownRow.holds Try.pinned (OpenSpec.ofChange glowKnownSpec)

/-- ITS FALSE NEIGHBOUR: 'it returns false'. Refute it at one input. -/
def glowKnownWrong : ChangeSpec := { name := "glowKnown", fn := fun _ => fun
  | [] => { results := [.lit (.bool false)], args := [] }
  | _ => none }
def GlowKnownWrongFalsely : Prop := glowKnownRow.holds Try.pinned (OpenSpec.ofChange glowKnownWrong)

/-- 'bedrocklaw10.GlowLand': WHATEVER THE INPUT: true; the input reads as it did. -/
def glowLandSpec : ChangeSpec := { name := "glowLand", fn := fun _ => fun
  | [d1, d2, d3] => { results := [.lit (.bool true)], args := [d1, d2, d3] }
  | _ => none }
def glowLandRow : OpenClaim := { program := "ytmgiabehooghcaa", sum := "9b26bbb397fac25452bb62aeeed5f1fec47a4b1ed2b618a2acb4dc8fc3e6ad7e", func := "bedrock/bedrocklaw10.GlowLand", spec := "glowLand", unfollowed := true, recurses := true, apart := false }
def GlowLandSaid : Prop := glowLandRow.holds Try.pinned (OpenSpec.ofChange glowLandSpec)

/-- ITS FALSE NEIGHBOUR: 'it returns false'. Refute it at one input. -/
def glowLandWrong : ChangeSpec := { name := "glowLand", fn := fun _ => fun
  | [d1, d2, d3] => { results := [.lit (.bool false)], args := [d1, d2, d3] }
  | _ => none }
def GlowLandWrongFalsely : Prop := glowLandRow.holds Try.pinned (OpenSpec.ofChange glowLandWrong)

/- THE SECOND FORM. 'bulk': how many values and letters a reading holds, each counted each time it is reached (what is shared counts as often as it is met; a slice's spare places count too). A statement '..UptoSaid' is the law's where the arguments, and the package variables that the reading takes, are together of bulk at most 1048576: NARROWER than '..Said'. Prove '..Said' where nothing that the law and all that it calls make is longer than what came in: it says more and counts as full. Else prove '..UptoSaid'. A law counts once. -/
mutual
def uptoBulk {H : Type} : DataW H → Nat
  | .lit (.string bytes) => bytes.length + 1
  | .lit _ => 1
  | .nil => 1
  | .ptr d => uptoBulk d + 1
  | .slice elems spare => uptoBulkAll elems + uptoBulkAll spare + 1
  | .agg parts => uptoBulkAll parts + 1
  | .iface _ d => uptoBulk d + 1
  | .map entries => uptoBulkEntries entries + 1
  | .held _ => 1
def uptoBulkAll {H : Type} : List (DataW H) → Nat
  | [] => 0
  | d :: r => uptoBulk d + uptoBulkAll r
def uptoBulkEntries {H : Type} : List (Lit × DataW H) → Nat
  | [] => 0
  | x :: r => uptoBulkEntry x + uptoBulkEntries r
def uptoBulkEntry {H : Type} : Lit × DataW H → Nat
  | (.string bytes, d) => bytes.length + uptoBulk d + 1
  | (_, d) => uptoBulk d + 1
 end
def uptoSmall : (H : Type) → List (DataW H) → Bool := fun _ ds => decide (uptoBulkAll ds ≤ 1048576)
def OpenSpec.upto (s : _root_.Go.ChangeSpec) : _root_.Go.OpenSpec := { _root_.Go.OpenSpec.ofChange s with cond := some uptoSmall }

/-- 'bedrocklaw10.GlowLights', WHERE WHAT IT READS IS OF BULK AT MOST 1048576: true; the input reads as it did. -/
def glowLightsUptoRow : OpenClaim := { program := "ytmgiabehooghcaa", sum := "9b26bbb397fac25452bb62aeeed5f1fec47a4b1ed2b618a2acb4dc8fc3e6ad7e", func := "bedrock/bedrocklaw10.GlowLights", spec := "glowLights", unfollowed := true, recurses := true, apart := false, narrowed := true }
def GlowLightsUptoSaid : Prop := glowLightsUptoRow.holds Try.pinned (OpenSpec.upto glowLightsSpec)

/-- 'bedrocklaw10.GlowSteps', WHERE WHAT IT READS IS OF BULK AT MOST 1048576: true; the input reads as it did. -/
def glowStepsUptoRow : OpenClaim := { program := "ytmgiabehooghcaa", sum := "9b26bbb397fac25452bb62aeeed5f1fec47a4b1ed2b618a2acb4dc8fc3e6ad7e", func := "bedrock/bedrocklaw10.GlowSteps", spec := "glowSteps", unfollowed := true, recurses := true, apart := false, narrowed := true }
def GlowStepsUptoSaid : Prop := glowStepsUptoRow.holds Try.pinned (OpenSpec.upto glowStepsSpec)

/-- 'bedrocklaw10.GlowNear', WHERE WHAT IT READS IS OF BULK AT MOST 1048576: true; the input reads as it did. -/
def glowNearUptoRow : OpenClaim := { program := "ytmgiabehooghcaa", sum := "9b26bbb397fac25452bb62aeeed5f1fec47a4b1ed2b618a2acb4dc8fc3e6ad7e", func := "bedrock/bedrocklaw10.GlowNear", spec := "glowNear", unfollowed := true, recurses := true, apart := false, narrowed := true }
def GlowNearUptoSaid : Prop := glowNearUptoRow.holds Try.pinned (OpenSpec.upto glowNearSpec)

/-- 'bedrocklaw10.GlowTorch', WHERE WHAT IT READS IS OF BULK AT MOST 1048576: true; the input reads as it did. -/
def glowTorchUptoRow : OpenClaim := { program := "ytmgiabehooghcaa", sum := "9b26bbb397fac25452bb62aeeed5f1fec47a4b1ed2b618a2acb4dc8fc3e6ad7e", func := "bedrock/bedrocklaw10.GlowTorch", spec := "glowTorch", unfollowed := true, recurses := true, apart := false, narrowed := true }
def GlowTorchUptoSaid : Prop := glowTorchUptoRow.holds Try.pinned (OpenSpec.upto glowTorchSpec)

/-- 'bedrocklaw10.GlowStone', WHERE WHAT IT READS IS OF BULK AT MOST 1048576: true; the input reads as it did. -/
def glowStoneUptoRow : OpenClaim := { program := "ytmgiabehooghcaa", sum := "9b26bbb397fac25452bb62aeeed5f1fec47a4b1ed2b618a2acb4dc8fc3e6ad7e", func := "bedrock/bedrocklaw10.GlowStone", spec := "glowStone", unfollowed := true, recurses := true, apart := false, narrowed := true }
def GlowStoneUptoSaid : Prop := glowStoneUptoRow.holds Try.pinned (OpenSpec.upto glowStoneSpec)

/-- 'bedrocklaw10.GlowLamp', WHERE WHAT IT READS IS OF BULK AT MOST 1048576: true; the input reads as it did. -/
def glowLampUptoRow : OpenClaim := { program := "ytmgiabehooghcaa", sum := "9b26bbb397fac25452bb62aeeed5f1fec47a4b1ed2b618a2acb4dc8fc3e6ad7e", func := "bedrock/bedrocklaw10.GlowLamp", spec := "glowLamp", unfollowed := true, recurses := true, apart := false, narrowed := true }
def GlowLampUptoSaid : Prop := glowLampUptoRow.holds Try.pinned (OpenSpec.upto glowLampSpec)

/-- 'bedrocklaw10.GlowTurned', WHERE WHAT IT READS IS OF BULK AT MOST 1048576: true; the input reads as it did. -/
def glowTurnedUptoRow : OpenClaim := { program := "ytmgiabehooghcaa", sum := "9b26bbb397fac25452bb62aeeed5f1fec47a4b1ed2b618a2acb4dc8fc3e6ad7e", func := "bedrock/bedrocklaw10.GlowTurned", spec := "glowTurned", unfollowed := true, recurses := true, apart := false, narrowed := true }
def GlowTurnedUptoSaid : Prop := glowTurnedUptoRow.holds Try.pinned (OpenSpec.upto glowTurnedSpec)

/-- 'bedrocklaw10.GlowKnown', WHERE WHAT IT READS IS OF BULK AT MOST 1048576: true; the input reads as it did. -/
def glowKnownUptoRow : OpenClaim := { program := "ytmgiabehooghcaa", sum := "9b26bbb397fac25452bb62aeeed5f1fec47a4b1ed2b618a2acb4dc8fc3e6ad7e", func := "bedrock/bedrocklaw10.GlowKnown", spec := "glowKnown", unfollowed := true, recurses := true, apart := false, narrowed := true }
def GlowKnownUptoSaid : Prop := glowKnownUptoRow.holds Try.pinned (OpenSpec.upto glowKnownSpec)

/-- 'bedrocklaw10.GlowLand', WHERE WHAT IT READS IS OF BULK AT MOST 1048576: true; the input reads as it did. -/
def glowLandUptoRow : OpenClaim := { program := "ytmgiabehooghcaa", sum := "9b26bbb397fac25452bb62aeeed5f1fec47a4b1ed2b618a2acb4dc8fc3e6ad7e", func := "bedrock/bedrocklaw10.GlowLand", spec := "glowLand", unfollowed := true, recurses := true, apart := false, narrowed := true }
def GlowLandUptoSaid : Prop := glowLandUptoRow.holds Try.pinned (OpenSpec.upto glowLandSpec)

end Rows
end Go.Proofs.Ytmgiabehooghcaa
