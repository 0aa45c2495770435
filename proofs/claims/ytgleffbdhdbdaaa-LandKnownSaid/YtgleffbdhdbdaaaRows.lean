/-
  No cell of these rows narrows 'for every input' (looked for: loops, veiled, ifaces, maps, wideKeys, modest, calm, conditions, laid).
  DERIVED. THE GIVEN ROWS OF THIS SEAT. 7 by the template 'for every input the law returns true; each argument reads behind the call as it read before'; 0 by the template 'total and deterministic' (their statements: YtgleffbdhdbdaaaTotals.lean).
  GIVEN WITH THE SEED: the statements are not yours to turn. If you find one false, say at which input.
  Laid BY PROGRAM, IN A SANDBOX (cutbox-rows.mjs): the forced cells as the released guide's own fill.sh prints them over the translation 06397d494bd76658… (all of the seat's roots in one cut). By AI agents, Wed Nov 11 2026. No macro, syntax, notation, axiom, sorry.
-/
import Derived.Test.YtgleffbdhdbdaaaChecked
import GoSem.Claim
import GoSem.ClaimJoined
import GoSem.ClaimMapViews
import Derived.JoinedTies
import Derived.KernelRfl
namespace Go.Proofs.Ytgleffbdhdbdaaa
/- THE CELL 'sum', in the pinned program and in every row, IS THE sha256 OF THE DUMP (.gsa) THAT YtgleffbdhdbdaaaProg.lean LOADS. Nothing in Lean hashes anything: it is a label: what it is worth is what the hold of that sum in a sandbox is worth. -/
noncomputable def Try.pinned : Pinned := { name := "ytgleffbdhdbdaaa", sum := "06397d494bd76658ffbefb514a978043445d91c74e885031f813f269bef32b38", checked := Try.checked }
namespace Rows
def none {H : Type} : Left H := { results := [], args := [] }

/-- 'bedrocklaw08.LandCells': WHATEVER THE INPUT: true; the input reads as it did. -/
def landCellsSpec : ChangeSpec := { name := "landCells", fn := fun _ => fun
  | [d] => { results := [.lit (.bool true)], args := [d] }
  | _ => none }
def landCellsRow : OpenClaim := { program := "ytgleffbdhdbdaaa", sum := "06397d494bd76658ffbefb514a978043445d91c74e885031f813f269bef32b38", func := "bedrock/bedrocklaw08.LandCells", spec := "landCells", apart := false }
def LandCellsSaid : Prop := landCellsRow.holds Try.pinned (OpenSpec.ofChange landCellsSpec)

/-- ITS FALSE NEIGHBOUR: 'it returns false'. Refute it at one input. -/
def landCellsWrong : ChangeSpec := { name := "landCells", fn := fun _ => fun
  | [d] => { results := [.lit (.bool false)], args := [d] }
  | _ => none }
def LandCellsWrongFalsely : Prop := landCellsRow.holds Try.pinned (OpenSpec.ofChange landCellsWrong)

/-- 'bedrocklaw08.LandFlat': WHATEVER THE INPUT: true; the input reads as it did. -/
def landFlatSpec : ChangeSpec := { name := "landFlat", fn := fun _ => fun
  | [d1, d2, d3] => { results := [.lit (.bool true)], args := [d1, d2, d3] }
  | _ => none }
def landFlatRow : OpenClaim := { program := "ytgleffbdhdbdaaa", sum := "06397d494bd76658ffbefb514a978043445d91c74e885031f813f269bef32b38", func := "bedrock/bedrocklaw08.LandFlat", spec := "landFlat", apart := false }
def LandFlatSaid : Prop := landFlatRow.holds Try.pinned (OpenSpec.ofChange landFlatSpec)

/-- ITS FALSE NEIGHBOUR: 'it returns false'. Refute it at one input. -/
def landFlatWrong : ChangeSpec := { name := "landFlat", fn := fun _ => fun
  | [d1, d2, d3] => { results := [.lit (.bool false)], args := [d1, d2, d3] }
  | _ => none }
def LandFlatWrongFalsely : Prop := landFlatRow.holds Try.pinned (OpenSpec.ofChange landFlatWrong)

/-- 'bedrocklaw08.LandOther': WHATEVER THE INPUT: true; the input reads as it did. -/
def landOtherSpec : ChangeSpec := { name := "landOther", fn := fun _ => fun
  | [d1, d2] => { results := [.lit (.bool true)], args := [d1, d2] }
  | _ => none }
def landOtherRow : OpenClaim := { program := "ytgleffbdhdbdaaa", sum := "06397d494bd76658ffbefb514a978043445d91c74e885031f813f269bef32b38", func := "bedrock/bedrocklaw08.LandOther", spec := "landOther", apart := false }
def LandOtherSaid : Prop := landOtherRow.holds Try.pinned (OpenSpec.ofChange landOtherSpec)

/-- ITS FALSE NEIGHBOUR: 'it returns false'. Refute it at one input. -/
def landOtherWrong : ChangeSpec := { name := "landOther", fn := fun _ => fun
  | [d1, d2] => { results := [.lit (.bool false)], args := [d1, d2] }
  | _ => none }
def LandOtherWrongFalsely : Prop := landOtherRow.holds Try.pinned (OpenSpec.ofChange landOtherWrong)

/-- 'bedrocklaw08.LandChunks': WHATEVER THE INPUT: true; the input reads as it did. -/
def landChunksSpec : ChangeSpec := { name := "landChunks", fn := fun _ => fun
  | [d] => { results := [.lit (.bool true)], args := [d] }
  | _ => none }
def landChunksRow : OpenClaim := { program := "ytgleffbdhdbdaaa", sum := "06397d494bd76658ffbefb514a978043445d91c74e885031f813f269bef32b38", func := "bedrock/bedrocklaw08.LandChunks", spec := "landChunks", apart := false }
def LandChunksSaid : Prop := landChunksRow.holds Try.pinned (OpenSpec.ofChange landChunksSpec)

/-- ITS FALSE NEIGHBOUR: 'it returns false'. Refute it at one input. -/
def landChunksWrong : ChangeSpec := { name := "landChunks", fn := fun _ => fun
  | [d] => { results := [.lit (.bool false)], args := [d] }
  | _ => none }
def LandChunksWrongFalsely : Prop := landChunksRow.holds Try.pinned (OpenSpec.ofChange landChunksWrong)

/-- 'bedrocklaw08.LandCounts': WHATEVER THE INPUT: true; the input reads as it did. -/
def landCountsSpec : ChangeSpec := { name := "landCounts", fn := fun _ => fun
  | [d] => { results := [.lit (.bool true)], args := [d] }
  | _ => none }
def landCountsRow : OpenClaim := { program := "ytgleffbdhdbdaaa", sum := "06397d494bd76658ffbefb514a978043445d91c74e885031f813f269bef32b38", func := "bedrock/bedrocklaw08.LandCounts", spec := "landCounts", apart := false }
def LandCountsSaid : Prop := landCountsRow.holds Try.pinned (OpenSpec.ofChange landCountsSpec)

/-- ITS FALSE NEIGHBOUR: 'it returns false'. Refute it at one input. -/
def landCountsWrong : ChangeSpec := { name := "landCounts", fn := fun _ => fun
  | [d] => { results := [.lit (.bool false)], args := [d] }
  | _ => none }
def LandCountsWrongFalsely : Prop := landCountsRow.holds Try.pinned (OpenSpec.ofChange landCountsWrong)

/-- 'bedrocklaw08.LandKnown': WHATEVER THE INPUT: true; the input reads as it did. -/
def landKnownSpec : ChangeSpec := { name := "landKnown", fn := fun _ => fun
  | [] => { results := [.lit (.bool true)], args := [] }
  | _ => none }
def landKnownRow : OpenClaim := { program := "ytgleffbdhdbdaaa", sum := "06397d494bd76658ffbefb514a978043445d91c74e885031f813f269bef32b38", func := "bedrock/bedrocklaw08.LandKnown", spec := "landKnown", unfollowed := true, recurses := true, apart := false }
def LandKnownSaid : Prop := landKnownRow.holds Try.pinned (OpenSpec.ofChange landKnownSpec)

/-- ITS FALSE NEIGHBOUR: 'it returns false'. Refute it at one input. -/
def landKnownWrong : ChangeSpec := { name := "landKnown", fn := fun _ => fun
  | [] => { results := [.lit (.bool false)], args := [] }
  | _ => none }
def LandKnownWrongFalsely : Prop := landKnownRow.holds Try.pinned (OpenSpec.ofChange landKnownWrong)

/-- 'bedrocklaw08.LandSame': WHATEVER THE INPUT: true; the input reads as it did. -/
def landSameSpec : ChangeSpec := { name := "landSame", fn := fun _ => fun
  | [d1, d2] => { results := [.lit (.bool true)], args := [d1, d2] }
  | _ => none }
def landSameRow : OpenClaim := { program := "ytgleffbdhdbdaaa", sum := "06397d494bd76658ffbefb514a978043445d91c74e885031f813f269bef32b38", func := "bedrock/bedrocklaw08.LandSame", spec := "landSame", apart := false }
def LandSameSaid : Prop := landSameRow.holds Try.pinned (OpenSpec.ofChange landSameSpec)

/-- ITS FALSE NEIGHBOUR: 'it returns false'. Refute it at one input. -/
def landSameWrong : ChangeSpec := { name := "landSame", fn := fun _ => fun
  | [d1, d2] => { results := [.lit (.bool false)], args := [d1, d2] }
  | _ => none }
def LandSameWrongFalsely : Prop := landSameRow.holds Try.pinned (OpenSpec.ofChange landSameWrong)

/- THE SECOND FORM. 'bulk': how many values and letters a reading holds, each counted each time it is reached (what is shared counts as often as it is met; a slice's spare places count too). A statement '..UptoSaid' is the law's where the arguments, and the package variables that the reading takes, are together of bulk at most 1048576: NARROWER than '..Said'. Prove '..Said' where nothing that the law and all that it calls make is longer than what came in: it says more and counts as full. Else prove '..UptoSaid'. A law counts once. -/
mutual
def uptoBulk {H : Type} : DataW H → Nat
  | .lit (.string bytes) => bytes.length + 1
  | .lit _ => 1
  | .nil => 1
  | .ptr d => uptoBulk d + 1
  | .slice elems spare => uptoBulkAll elems + uptoBulkAll spare + 1
  | .agg parts => uptoBulkAll parts + 1
  | .iface _ d => uptoBulk d + 1
  | .map entries => uptoBulkEntries entries + 1
  | .held _ => 1
def uptoBulkAll {H : Type} : List (DataW H) → Nat
  | [] => 0
  | d :: r => uptoBulk d + uptoBulkAll r
def uptoBulkEntries {H : Type} : List (Lit × DataW H) → Nat
  | [] => 0
  | x :: r => uptoBulkEntry x + uptoBulkEntries r
def uptoBulkEntry {H : Type} : Lit × DataW H → Nat
  | (.string bytes, d) => bytes.length + uptoBulk d + 1
  | (_, d) => uptoBulk d + 1
 end
def uptoSmall : (H : Type) → List (DataW H) → Bool := fun _ ds => decide (uptoBulkAll ds ≤ 1048576)
def OpenSpec.upto (s : _root_.Go.ChangeSpec) : _root_.Go.OpenSpec := { _root_.Go.OpenSpec.ofChange s with cond := some uptoSmall }

/-- 'bedrocklaw08.LandCells', WHERE WHAT IT READS IS OF BULK AT MOST 1048576: true; the input reads as it did. -/
def landCellsUptoRow : OpenClaim := { program := "ytgleffbdhdbdaaa", sum := "06397d494bd76658ffbefb514a978043445d91c74e885031f813f269bef32b38", func := "bedrock/bedrocklaw08.LandCells", spec := "landCells", apart := false, narrowed := true }
def LandCellsUptoSaid : Prop := landCellsUptoRow.holds Try.pinned (OpenSpec.upto landCellsSpec)

/-- 'bedrocklaw08.LandFlat', WHERE WHAT IT READS IS OF BULK AT MOST 1048576: true; the input reads as it did. -/
def landFlatUptoRow : OpenClaim := { program := "ytgleffbdhdbdaaa", sum := "06397d494bd76658ffbefb514a978043445d91c74e885031f813f269bef32b38", func := "bedrock/bedrocklaw08.LandFlat", spec := "landFlat", apart := false, narrowed := true }
def LandFlatUptoSaid : Prop := landFlatUptoRow.holds Try.pinned (OpenSpec.upto landFlatSpec)

/-- 'bedrocklaw08.LandOther', WHERE WHAT IT READS IS OF BULK AT MOST 1048576: true; the input reads as it did. -/
def landOtherUptoRow : OpenClaim := { program := "ytgleffbdhdbdaaa", sum := "06397d494bd76658ffbefb514a978043445d91c74e885031f813f269bef32b38", func := "bedrock/bedrocklaw08.LandOther", spec := "landOther", apart := false, narrowed := true }
def LandOtherUptoSaid : Prop := landOtherUptoRow.holds Try.pinned (OpenSpec.upto landOtherSpec)

/-- 'bedrocklaw08.LandChunks', WHERE WHAT IT READS IS OF BULK AT MOST 1048576: true; the input reads as it did. -/
def landChunksUptoRow : OpenClaim := { program := "ytgleffbdhdbdaaa", sum := "06397d494bd76658ffbefb514a978043445d91c74e885031f813f269bef32b38", func := "bedrock/bedrocklaw08.LandChunks", spec := "landChunks", apart := false, narrowed := true }
def LandChunksUptoSaid : Prop := landChunksUptoRow.holds Try.pinned (OpenSpec.upto landChunksSpec)

/-- 'bedrocklaw08.LandCounts', WHERE WHAT IT READS IS OF BULK AT MOST 1048576: true; the input reads as it did. -/
def landCountsUptoRow : OpenClaim := { program := "ytgleffbdhdbdaaa", sum := "06397d494bd76658ffbefb514a978043445d91c74e885031f813f269bef32b38", func := "bedrock/bedrocklaw08.LandCounts", spec := "landCounts", apart := false, narrowed := true }
def LandCountsUptoSaid : Prop := landCountsUptoRow.holds Try.pinned (OpenSpec.upto landCountsSpec)

/-- 'bedrocklaw08.LandKnown', WHERE WHAT IT READS IS OF BULK AT MOST 1048576: true; the input reads as it did. -/
def landKnownUptoRow : OpenClaim := { program := "ytgleffbdhdbdaaa", sum := "06397d494bd76658ffbefb514a978043445d91c74e885031f813f269bef32b38", func := "bedrock/bedrocklaw08.LandKnown", spec := "landKnown", unfollowed := true, recurses := true, apart := false, narrowed := true }
def LandKnownUptoSaid : Prop := landKnownUptoRow.holds Try.pinned (OpenSpec.upto landKnownSpec)

/-- 'bedrocklaw08.LandSame', WHERE WHAT IT READS IS OF BULK AT MOST 1048576: true; the input reads as it did. -/
def landSameUptoRow : OpenClaim := { program := "ytgleffbdhdbdaaa", sum := "06397d494bd76658ffbefb514a978043445d91c74e885031f813f269bef32b38", func := "bedrock/bedrocklaw08.LandSame", spec := "landSame", apart := false, narrowed := true }
def LandSameUptoSaid : Prop := landSameUptoRow.holds Try.pinned (OpenSpec.upto landSameSpec)

end Rows
end Go.Proofs.Ytgleffbdhdbdaaa
