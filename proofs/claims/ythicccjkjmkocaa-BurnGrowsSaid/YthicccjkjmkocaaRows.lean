/-
  No cell of these rows narrows 'for every input' (looked for: loops, veiled, ifaces, maps, wideKeys, modest, calm, conditions, laid).
  DERIVED. THE GIVEN ROWS OF THIS SEAT. 9 by the template 'for every input the law returns true; each argument reads behind the call as it read before'; 0 by the template 'total and deterministic' (their statements: YthicccjkjmkocaaTotals.lean).
  GIVEN WITH THE SEED: the statements are not yours to turn. If you find one false, say at which input.
  Laid BY PROGRAM, IN A SANDBOX (cutbox-rows.mjs): the forced cells as the released guide's own fill.sh prints them over the translation 09ef0b0d6ea585b0… (all of the seat's roots in one cut). By AI agents, Wed Nov 11 2026. No macro, syntax, notation, axiom, sorry.
-/
import Derived.Test.YthicccjkjmkocaaChecked
import GoSem.Claim
import GoSem.ClaimJoined
import GoSem.ClaimMapViews
import Derived.JoinedTies
import Derived.KernelRfl
namespace Go.Proofs.Ythicccjkjmkocaa
/- THE CELL 'sum', in the pinned program and in every row, IS THE sha256 OF THE DUMP (.gsa) THAT YthicccjkjmkocaaProg.lean LOADS. Nothing in Lean hashes anything: it is a label: what it is worth is what the hold of that sum in a sandbox is worth. -/
noncomputable def Try.pinned : Pinned := { name := "ythicccjkjmkocaa", sum := "09ef0b0d6ea585b024e679e86897fe183de03565f4cad5dcaf95e859556ed689", checked := Try.checked }
namespace Rows
def none {H : Type} : Left H := { results := [], args := [] }

/-- 'bedrocklaw14.BurnFires': WHATEVER THE INPUT: true; the input reads as it did. -/
def burnFiresSpec : ChangeSpec := { name := "burnFires", fn := fun _ => fun
  | [d] => { results := [.lit (.bool true)], args := [d] }
  | _ => none }
def burnFiresRow : OpenClaim := { program := "ythicccjkjmkocaa", sum := "09ef0b0d6ea585b024e679e86897fe183de03565f4cad5dcaf95e859556ed689", func := "bedrock/bedrocklaw14.BurnFires", spec := "burnFires", unfollowed := true, recurses := true, apart := false }
def BurnFiresSaid : Prop := burnFiresRow.holds Try.pinned (OpenSpec.ofChange burnFiresSpec)

/-- ITS FALSE NEIGHBOUR: 'it returns false'. Refute it at one input. -/
def burnFiresWrong : ChangeSpec := { name := "burnFires", fn := fun _ => fun
  | [d] => { results := [.lit (.bool false)], args := [d] }
  | _ => none }
def BurnFiresWrongFalsely : Prop := burnFiresRow.holds Try.pinned (OpenSpec.ofChange burnFiresWrong)

/-- 'bedrocklaw14.BurnOver': WHATEVER THE INPUT: true; the input reads as it did. -/
def burnOverSpec : ChangeSpec := { name := "burnOver", fn := fun _ => fun
  | [d1, d2] => { results := [.lit (.bool true)], args := [d1, d2] }
  | _ => none }
def burnOverRow : OpenClaim := { program := "ythicccjkjmkocaa", sum := "09ef0b0d6ea585b024e679e86897fe183de03565f4cad5dcaf95e859556ed689", func := "bedrock/bedrocklaw14.BurnOver", spec := "burnOver", unfollowed := true, recurses := true, apart := false }
def BurnOverSaid : Prop := burnOverRow.holds Try.pinned (OpenSpec.ofChange burnOverSpec)

/-- ITS FALSE NEIGHBOUR: 'it returns false'. Refute it at one input. -/
def burnOverWrong : ChangeSpec := { name := "burnOver", fn := fun _ => fun
  | [d1, d2] => { results := [.lit (.bool false)], args := [d1, d2] }
  | _ => none }
def BurnOverWrongFalsely : Prop := burnOverRow.holds Try.pinned (OpenSpec.ofChange burnOverWrong)

/-- 'bedrocklaw14.BurnTakes': WHATEVER THE INPUT: true; the input reads as it did. -/
def burnTakesSpec : ChangeSpec := { name := "burnTakes", fn := fun _ => fun
  | [d1, d2, d3] => { results := [.lit (.bool true)], args := [d1, d2, d3] }
  | _ => none }
def burnTakesRow : OpenClaim := { program := "ythicccjkjmkocaa", sum := "09ef0b0d6ea585b024e679e86897fe183de03565f4cad5dcaf95e859556ed689", func := "bedrock/bedrocklaw14.BurnTakes", spec := "burnTakes", unfollowed := true, recurses := true, apart := false }
def BurnTakesSaid : Prop := burnTakesRow.holds Try.pinned (OpenSpec.ofChange burnTakesSpec)

/-- ITS FALSE NEIGHBOUR: 'it returns false'. Refute it at one input. -/
def burnTakesWrong : ChangeSpec := { name := "burnTakes", fn := fun _ => fun
  | [d1, d2, d3] => { results := [.lit (.bool false)], args := [d1, d2, d3] }
  | _ => none }
def BurnTakesWrongFalsely : Prop := burnTakesRow.holds Try.pinned (OpenSpec.ofChange burnTakesWrong)

/-- 'bedrocklaw14.BurnPlants': WHATEVER THE INPUT: true; the input reads as it did. -/
def burnPlantsSpec : ChangeSpec := { name := "burnPlants", fn := fun _ => fun
  | [d] => { results := [.lit (.bool true)], args := [d] }
  | _ => none }
def burnPlantsRow : OpenClaim := { program := "ythicccjkjmkocaa", sum := "09ef0b0d6ea585b024e679e86897fe183de03565f4cad5dcaf95e859556ed689", func := "bedrock/bedrocklaw14.BurnPlants", spec := "burnPlants", unfollowed := true, recurses := true, apart := false }
def BurnPlantsSaid : Prop := burnPlantsRow.holds Try.pinned (OpenSpec.ofChange burnPlantsSpec)

/-- ITS FALSE NEIGHBOUR: 'it returns false'. Refute it at one input. -/
def burnPlantsWrong : ChangeSpec := { name := "burnPlants", fn := fun _ => fun
  | [d] => { results := [.lit (.bool false)], args := [d] }
  | _ => none }
def BurnPlantsWrongFalsely : Prop := burnPlantsRow.holds Try.pinned (OpenSpec.ofChange burnPlantsWrong)

/-- 'bedrocklaw14.BurnCounts': WHATEVER THE INPUT: true; the input reads as it did. -/
def burnCountsSpec : ChangeSpec := { name := "burnCounts", fn := fun _ => fun
  | [d] => { results := [.lit (.bool true)], args := [d] }
  | _ => none }
def burnCountsRow : OpenClaim := { program := "ythicccjkjmkocaa", sum := "09ef0b0d6ea585b024e679e86897fe183de03565f4cad5dcaf95e859556ed689", func := "bedrock/bedrocklaw14.BurnCounts", spec := "burnCounts", unfollowed := true, recurses := true, apart := false }
def BurnCountsSaid : Prop := burnCountsRow.holds Try.pinned (OpenSpec.ofChange burnCountsSpec)

/-- ITS FALSE NEIGHBOUR: 'it returns false'. Refute it at one input. -/
def burnCountsWrong : ChangeSpec := { name := "burnCounts", fn := fun _ => fun
  | [d] => { results := [.lit (.bool false)], args := [d] }
  | _ => none }
def BurnCountsWrongFalsely : Prop := burnCountsRow.holds Try.pinned (OpenSpec.ofChange burnCountsWrong)

/-- 'bedrocklaw14.BurnOnce': WHATEVER THE INPUT: true; the input reads as it did. -/
def burnOnceSpec : ChangeSpec := { name := "burnOnce", fn := fun _ => fun
  | [d] => { results := [.lit (.bool true)], args := [d] }
  | _ => none }
def burnOnceRow : OpenClaim := { program := "ythicccjkjmkocaa", sum := "09ef0b0d6ea585b024e679e86897fe183de03565f4cad5dcaf95e859556ed689", func := "bedrock/bedrocklaw14.BurnOnce", spec := "burnOnce", unfollowed := true, recurses := true, apart := false }
def BurnOnceSaid : Prop := burnOnceRow.holds Try.pinned (OpenSpec.ofChange burnOnceSpec)

/-- ITS FALSE NEIGHBOUR: 'it returns false'. Refute it at one input. -/
def burnOnceWrong : ChangeSpec := { name := "burnOnce", fn := fun _ => fun
  | [d] => { results := [.lit (.bool false)], args := [d] }
  | _ => none }
def BurnOnceWrongFalsely : Prop := burnOnceRow.holds Try.pinned (OpenSpec.ofChange burnOnceWrong)

/-- 'bedrocklaw14.BurnDark': WHATEVER THE INPUT: true; the input reads as it did. -/
def burnDarkSpec : ChangeSpec := { name := "burnDark", fn := fun _ => fun
  | [d1, d2] => { results := [.lit (.bool true)], args := [d1, d2] }
  | _ => none }
def burnDarkRow : OpenClaim := { program := "ythicccjkjmkocaa", sum := "09ef0b0d6ea585b024e679e86897fe183de03565f4cad5dcaf95e859556ed689", func := "bedrock/bedrocklaw14.BurnDark", spec := "burnDark", unfollowed := true, recurses := true, apart := false }
def BurnDarkSaid : Prop := burnDarkRow.holds Try.pinned (OpenSpec.ofChange burnDarkSpec)

/-- ITS FALSE NEIGHBOUR: 'it returns false'. Refute it at one input. -/
def burnDarkWrong : ChangeSpec := { name := "burnDark", fn := fun _ => fun
  | [d1, d2] => { results := [.lit (.bool false)], args := [d1, d2] }
  | _ => none }
def BurnDarkWrongFalsely : Prop := burnDarkRow.holds Try.pinned (OpenSpec.ofChange burnDarkWrong)

/-- 'bedrocklaw14.BurnGrows': WHATEVER THE INPUT: true; the input reads as it did. -/
def burnGrowsSpec : ChangeSpec := { name := "burnGrows", fn := fun _ => fun
  | [d1, d2] => { results := [.lit (.bool true)], args := [d1, d2] }
  | _ => none }
def burnGrowsRow : OpenClaim := { program := "ythicccjkjmkocaa", sum := "09ef0b0d6ea585b024e679e86897fe183de03565f4cad5dcaf95e859556ed689", func := "bedrock/bedrocklaw14.BurnGrows", spec := "burnGrows", unfollowed := true, recurses := true, apart := false }
def BurnGrowsSaid : Prop := burnGrowsRow.holds Try.pinned (OpenSpec.ofChange burnGrowsSpec)

/-- ITS FALSE NEIGHBOUR: 'it returns false'. Refute it at one input. -/
def burnGrowsWrong : ChangeSpec := { name := "burnGrows", fn := fun _ => fun
  | [d1, d2] => { results := [.lit (.bool false)], args := [d1, d2] }
  | _ => none }
def BurnGrowsWrongFalsely : Prop := burnGrowsRow.holds Try.pinned (OpenSpec.ofChange burnGrowsWrong)

/-- 'bedrocklaw14.BurnKnown': WHATEVER THE INPUT: true; the input reads as it did. -/
def burnKnownSpec : ChangeSpec := { name := "burnKnown", fn := fun _ => fun
  | [] => { results := [.lit (.bool true)], args := [] }
  | _ => none }
def burnKnownRow : OpenClaim := { program := "ythicccjkjmkocaa", sum := "09ef0b0d6ea585b024e679e86897fe183de03565f4cad5dcaf95e859556ed689", func := "bedrock/bedrocklaw14.BurnKnown", spec := "burnKnown", unfollowed := true, recurses := true, apart := false }
def BurnKnownSaid : Prop := burnKnownRow.holds Try.pinned (OpenSpec.ofChange burnKnownSpec)

/-- ITS FALSE NEIGHBOUR: 'it returns false'. Refute it at one input. -/
def burnKnownWrong : ChangeSpec := { name := "burnKnown", fn := fun _ => fun
  | [] => { results := [.lit (.bool false)], args := [] }
  | _ => none }
def BurnKnownWrongFalsely : Prop := burnKnownRow.holds Try.pinned (OpenSpec.ofChange burnKnownWrong)

/- THE SECOND FORM. 'bulk': how many values and letters a reading holds, each counted each time it is reached (what is shared counts as often as it is met; a slice's spare places count too). A statement '..UptoSaid' is the law's where the arguments, and the package variables that the reading takes, are together of bulk at most 1048576: NARROWER than '..Said'. Prove '..Said' where nothing that the law and all that it calls make is longer than what came in: it says more and counts as full. Else prove '..UptoSaid'. A law counts once. -/
mutual
def uptoBulk {H : Type} : DataW H → Nat
  | .lit (.string bytes) => bytes.length + 1
  | .lit _ => 1
  | .nil => 1
  | .ptr d => uptoBulk d + 1
  | .slice elems spare => uptoBulkAll elems + uptoBulkAll spare + 1
  | .agg parts => uptoBulkAll parts + 1
  | .iface _ d => uptoBulk d + 1
  | .map entries => uptoBulkEntries entries + 1
  | .held _ => 1
def uptoBulkAll {H : Type} : List (DataW H) → Nat
  | [] => 0
  | d :: r => uptoBulk d + uptoBulkAll r
def uptoBulkEntries {H : Type} : List (Lit × DataW H) → Nat
  | [] => 0
  | x :: r => uptoBulkEntry x + uptoBulkEntries r
def uptoBulkEntry {H : Type} : Lit × DataW H → Nat
  | (.string bytes, d) => bytes.length + uptoBulk d + 1
  | (_, d) => uptoBulk d + 1
 end
def uptoSmall : (H : Type) → List (DataW H) → Bool := fun _ ds => decide (uptoBulkAll ds ≤ 1048576)
def OpenSpec.upto (s : _root_.Go.ChangeSpec) : _root_.Go.OpenSpec := { _root_.Go.OpenSpec.ofChange s with cond := some uptoSmall }

/-- 'bedrocklaw14.BurnFires', WHERE WHAT IT READS IS OF BULK AT MOST 1048576: true; the input reads as it did. -/
def burnFiresUptoRow : OpenClaim := { program := "ythicccjkjmkocaa", sum := "09ef0b0d6ea585b024e679e86897fe183de03565f4cad5dcaf95e859556ed689", func := "bedrock/bedrocklaw14.BurnFires", spec := "burnFires", unfollowed := true, recurses := true, apart := false, narrowed := true }
def BurnFiresUptoSaid : Prop := burnFiresUptoRow.holds Try.pinned (OpenSpec.upto burnFiresSpec)

/-- 'bedrocklaw14.BurnOver', WHERE WHAT IT READS IS OF BULK AT MOST 1048576: true; the input reads as it did. -/
def burnOverUptoRow : OpenClaim := { program := "ythicccjkjmkocaa", sum := "09ef0b0d6ea585b024e679e86897fe183de03565f4cad5dcaf95e859556ed689", func := "bedrock/bedrocklaw14.BurnOver", spec := "burnOver", unfollowed := true, recurses := true, apart := false, narrowed := true }
def BurnOverUptoSaid : Prop := burnOverUptoRow.holds Try.pinned (OpenSpec.upto burnOverSpec)

/-- 'bedrocklaw14.BurnTakes', WHERE WHAT IT READS IS OF BULK AT MOST 1048576: true; the input reads as it did. -/
def burnTakesUptoRow : OpenClaim := { program := "ythicccjkjmkocaa", sum := "09ef0b0d6ea585b024e679e86897fe183de03565f4cad5dcaf95e859556ed689", func := "bedrock/bedrocklaw14.BurnTakes", spec := "burnTakes", unfollowed := true, recurses := true, apart := false, narrowed := true }
def BurnTakesUptoSaid : Prop := burnTakesUptoRow.holds Try.pinned (OpenSpec.upto burnTakesSpec)

/-- 'bedrocklaw14.BurnPlants', WHERE WHAT IT READS IS OF BULK AT MOST 1048576: true; the input reads as it did. -/
def burnPlantsUptoRow : OpenClaim := { program := "ythicccjkjmkocaa", sum := "09ef0b0d6ea585b024e679e86897fe183de03565f4cad5dcaf95e859556ed689", func := "bedrock/bedrocklaw14.BurnPlants", spec := "burnPlants", unfollowed := true, recurses := true, apart := false, narrowed := true }
def BurnPlantsUptoSaid : Prop := burnPlantsUptoRow.holds Try.pinned (OpenSpec.upto burnPlantsSpec)

/-- 'bedrocklaw14.BurnCounts', WHERE WHAT IT READS IS OF BULK AT MOST 1048576: true; the input reads as it did. -/
def burnCountsUptoRow : OpenClaim := { program := "ythicccjkjmkocaa", sum := "09ef0b0d6ea585b024e679e86897fe183de03565f4cad5dcaf95e859556ed689", func := "bedrock/bedrocklaw14.BurnCounts", spec := "burnCounts", unfollowed := true, recurses := true, apart := false, narrowed := true }
def BurnCountsUptoSaid : Prop := burnCountsUptoRow.holds Try.pinned (OpenSpec.upto burnCountsSpec)

/-- 'bedrocklaw14.BurnOnce', WHERE WHAT IT READS IS OF BULK AT MOST 1048576: true; the input reads as it did. -/
def burnOnceUptoRow : OpenClaim := { program := "ythicccjkjmkocaa", sum := "09ef0b0d6ea585b024e679e86897fe183de03565f4cad5dcaf95e859556ed689", func := "bedrock/bedrocklaw14.BurnOnce", spec := "burnOnce", unfollowed := true, recurses := true, apart := false, narrowed := true }
def BurnOnceUptoSaid : Prop := burnOnceUptoRow.holds Try.pinned (OpenSpec.upto burnOnceSpec)

/-- 'bedrocklaw14.BurnDark', WHERE WHAT IT READS IS OF BULK AT MOST 1048576: true; the input reads as it did. -/
def burnDarkUptoRow : OpenClaim := { program := "ythicccjkjmkocaa", sum := "09ef0b0d6ea585b024e679e86897fe183de03565f4cad5dcaf95e859556ed689", func := "bedrock/bedrocklaw14.BurnDark", spec := "burnDark", unfollowed := true, recurses := true, apart := false, narrowed := true }
def BurnDarkUptoSaid : Prop := burnDarkUptoRow.holds Try.pinned (OpenSpec.upto burnDarkSpec)

/-- 'bedrocklaw14.BurnGrows', WHERE WHAT IT READS IS OF BULK AT MOST 1048576: true; the input reads as it did. -/
def burnGrowsUptoRow : OpenClaim := { program := "ythicccjkjmkocaa", sum := "09ef0b0d6ea585b024e679e86897fe183de03565f4cad5dcaf95e859556ed689", func := "bedrock/bedrocklaw14.BurnGrows", spec := "burnGrows", unfollowed := true, recurses := true, apart := false, narrowed := true }
def BurnGrowsUptoSaid : Prop := burnGrowsUptoRow.holds Try.pinned (OpenSpec.upto burnGrowsSpec)

/-- 'bedrocklaw14.BurnKnown', WHERE WHAT IT READS IS OF BULK AT MOST 1048576: true; the input reads as it did. -/
def burnKnownUptoRow : OpenClaim := { program := "ythicccjkjmkocaa", sum := "09ef0b0d6ea585b024e679e86897fe183de03565f4cad5dcaf95e859556ed689", func := "bedrock/bedrocklaw14.BurnKnown", spec := "burnKnown", unfollowed := true, recurses := true, apart := false, narrowed := true }
def BurnKnownUptoSaid : Prop := burnKnownUptoRow.holds Try.pinned (OpenSpec.upto burnKnownSpec)

end Rows
end Go.Proofs.Ythicccjkjmkocaa
