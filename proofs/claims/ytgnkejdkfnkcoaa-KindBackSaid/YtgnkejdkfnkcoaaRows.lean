/-
  No cell of these rows narrows 'for every input' (looked for: loops, veiled, ifaces, maps, wideKeys, modest, calm, conditions, laid).
  DERIVED. THE GIVEN ROWS OF THIS SEAT. 6 by the template 'for every input the law returns true; each argument reads behind the call as it read before'; 0 by the template 'total and deterministic' (their statements: YtgnkejdkfnkcoaaTotals.lean).
  GIVEN WITH THE SEED: the statements are not yours to turn. If you find one false, say at which input.
  Laid BY PROGRAM, IN A SANDBOX (cutbox-rows.mjs): the forced cells as the released guide's own fill.sh prints them over the translation 4bad84c34834e160… (all of the seat's roots in one cut). By AI agents, Wed Nov 11 2026. No macro, syntax, notation, axiom, sorry.
-/
import Derived.Test.YtgnkejdkfnkcoaaChecked
import GoSem.Claim
import GoSem.ClaimJoined
import GoSem.ClaimMapViews
import Derived.JoinedTies
import Derived.KernelRfl
namespace Go.Proofs.Ytgnkejdkfnkcoaa
/- THE CELL 'sum', in the pinned program and in every row, IS THE sha256 OF THE DUMP (.gsa) THAT YtgnkejdkfnkcoaaProg.lean LOADS. Nothing in Lean hashes anything: it is a label: what it is worth is what the hold of that sum in a sandbox is worth. -/
noncomputable def Try.pinned : Pinned := { name := "ytgnkejdkfnkcoaa", sum := "4bad84c34834e1602c7dc9ad062fc672df4e6d63598c390c4a10cb677d0180c4", checked := Try.checked }
namespace Rows
def none {H : Type} : Left H := { results := [], args := [] }

/-- 'bedrocklaw01.KindNames': WHATEVER THE INPUT: true; the input reads as it did. -/
def kindNamesSpec : ChangeSpec := { name := "kindNames", fn := fun _ => fun
  | [d1, d2] => { results := [.lit (.bool true)], args := [d1, d2] }
  | _ => none }
def kindNamesRow : OpenClaim := { program := "ytgnkejdkfnkcoaa", sum := "4bad84c34834e1602c7dc9ad062fc672df4e6d63598c390c4a10cb677d0180c4", func := "bedrock/bedrocklaw01.KindNames", spec := "kindNames", apart := false }
def KindNamesSaid : Prop := kindNamesRow.holds Try.pinned (OpenSpec.ofChange kindNamesSpec)

/-- ITS FALSE NEIGHBOUR: 'it returns false'. Refute it at one input. -/
def kindNamesWrong : ChangeSpec := { name := "kindNames", fn := fun _ => fun
  | [d1, d2] => { results := [.lit (.bool false)], args := [d1, d2] }
  | _ => none }
def KindNamesWrongFalsely : Prop := kindNamesRow.holds Try.pinned (OpenSpec.ofChange kindNamesWrong)

/-- 'bedrocklaw01.KindCells': WHATEVER THE INPUT: true; the input reads as it did. -/
def kindCellsSpec : ChangeSpec := { name := "kindCells", fn := fun _ => fun
  | [d] => { results := [.lit (.bool true)], args := [d] }
  | _ => none }
def kindCellsRow : OpenClaim := { program := "ytgnkejdkfnkcoaa", sum := "4bad84c34834e1602c7dc9ad062fc672df4e6d63598c390c4a10cb677d0180c4", func := "bedrock/bedrocklaw01.KindCells", spec := "kindCells", apart := false }
def KindCellsSaid : Prop := kindCellsRow.holds Try.pinned (OpenSpec.ofChange kindCellsSpec)

/-- ITS FALSE NEIGHBOUR: 'it returns false'. Refute it at one input. -/
def kindCellsWrong : ChangeSpec := { name := "kindCells", fn := fun _ => fun
  | [d] => { results := [.lit (.bool false)], args := [d] }
  | _ => none }
def KindCellsWrongFalsely : Prop := kindCellsRow.holds Try.pinned (OpenSpec.ofChange kindCellsWrong)

/-- 'bedrocklaw01.KindBack': WHATEVER THE INPUT: true; the input reads as it did. -/
def kindBackSpec : ChangeSpec := { name := "kindBack", fn := fun _ => fun
  | [d1, d2] => { results := [.lit (.bool true)], args := [d1, d2] }
  | _ => none }
def kindBackRow : OpenClaim := { program := "ytgnkejdkfnkcoaa", sum := "4bad84c34834e1602c7dc9ad062fc672df4e6d63598c390c4a10cb677d0180c4", func := "bedrock/bedrocklaw01.KindBack", spec := "kindBack", apart := false }
def KindBackSaid : Prop := kindBackRow.holds Try.pinned (OpenSpec.ofChange kindBackSpec)

/-- ITS FALSE NEIGHBOUR: 'it returns false'. Refute it at one input. -/
def kindBackWrong : ChangeSpec := { name := "kindBack", fn := fun _ => fun
  | [d1, d2] => { results := [.lit (.bool false)], args := [d1, d2] }
  | _ => none }
def KindBackWrongFalsely : Prop := kindBackRow.holds Try.pinned (OpenSpec.ofChange kindBackWrong)

/-- 'bedrocklaw01.KindSorts': WHATEVER THE INPUT: true; the input reads as it did. -/
def kindSortsSpec : ChangeSpec := { name := "kindSorts", fn := fun _ => fun
  | [d] => { results := [.lit (.bool true)], args := [d] }
  | _ => none }
def kindSortsRow : OpenClaim := { program := "ytgnkejdkfnkcoaa", sum := "4bad84c34834e1602c7dc9ad062fc672df4e6d63598c390c4a10cb677d0180c4", func := "bedrock/bedrocklaw01.KindSorts", spec := "kindSorts", apart := false }
def KindSortsSaid : Prop := kindSortsRow.holds Try.pinned (OpenSpec.ofChange kindSortsSpec)

/-- ITS FALSE NEIGHBOUR: 'it returns false'. Refute it at one input. -/
def kindSortsWrong : ChangeSpec := { name := "kindSorts", fn := fun _ => fun
  | [d] => { results := [.lit (.bool false)], args := [d] }
  | _ => none }
def KindSortsWrongFalsely : Prop := kindSortsRow.holds Try.pinned (OpenSpec.ofChange kindSortsWrong)

/-- 'bedrocklaw01.KindKnown': WHATEVER THE INPUT: true; the input reads as it did. -/
def kindKnownSpec : ChangeSpec := { name := "kindKnown", fn := fun _ => fun
  | [] => { results := [.lit (.bool true)], args := [] }
  | _ => none }
def kindKnownRow : OpenClaim := { program := "ytgnkejdkfnkcoaa", sum := "4bad84c34834e1602c7dc9ad062fc672df4e6d63598c390c4a10cb677d0180c4", func := "bedrock/bedrocklaw01.KindKnown", spec := "kindKnown", apart := false }
def KindKnownSaid : Prop := kindKnownRow.holds Try.pinned (OpenSpec.ofChange kindKnownSpec)

/-- ITS FALSE NEIGHBOUR: 'it returns false'. Refute it at one input. -/
def kindKnownWrong : ChangeSpec := { name := "kindKnown", fn := fun _ => fun
  | [] => { results := [.lit (.bool false)], args := [] }
  | _ => none }
def KindKnownWrongFalsely : Prop := kindKnownRow.holds Try.pinned (OpenSpec.ofChange kindKnownWrong)

/-- 'bedrocklaw01.KindLaws': WHATEVER THE INPUT: true; the input reads as it did. -/
def kindLawsSpec : ChangeSpec := { name := "kindLaws", fn := fun _ => fun
  | [d] => { results := [.lit (.bool true)], args := [d] }
  | _ => none }
def kindLawsRow : OpenClaim := { program := "ytgnkejdkfnkcoaa", sum := "4bad84c34834e1602c7dc9ad062fc672df4e6d63598c390c4a10cb677d0180c4", func := "bedrock/bedrocklaw01.KindLaws", spec := "kindLaws", apart := false }
def KindLawsSaid : Prop := kindLawsRow.holds Try.pinned (OpenSpec.ofChange kindLawsSpec)

/-- ITS FALSE NEIGHBOUR: 'it returns false'. Refute it at one input. -/
def kindLawsWrong : ChangeSpec := { name := "kindLaws", fn := fun _ => fun
  | [d] => { results := [.lit (.bool false)], args := [d] }
  | _ => none }
def KindLawsWrongFalsely : Prop := kindLawsRow.holds Try.pinned (OpenSpec.ofChange kindLawsWrong)

/- THE SECOND FORM. 'bulk': how many values and letters a reading holds, each counted each time it is reached (what is shared counts as often as it is met; a slice's spare places count too). A statement '..UptoSaid' is the law's where the arguments, and the package variables that the reading takes, are together of bulk at most 1048576: NARROWER than '..Said'. Prove '..Said' where nothing that the law and all that it calls make is longer than what came in: it says more and counts as full. Else prove '..UptoSaid'. A law counts once. -/
mutual
def uptoBulk {H : Type} : DataW H → Nat
  | .lit (.string bytes) => bytes.length + 1
  | .lit _ => 1
  | .nil => 1
  | .ptr d => uptoBulk d + 1
  | .slice elems spare => uptoBulkAll elems + uptoBulkAll spare + 1
  | .agg parts => uptoBulkAll parts + 1
  | .iface _ d => uptoBulk d + 1
  | .map entries => uptoBulkEntries entries + 1
  | .held _ => 1
def uptoBulkAll {H : Type} : List (DataW H) → Nat
  | [] => 0
  | d :: r => uptoBulk d + uptoBulkAll r
def uptoBulkEntries {H : Type} : List (Lit × DataW H) → Nat
  | [] => 0
  | x :: r => uptoBulkEntry x + uptoBulkEntries r
def uptoBulkEntry {H : Type} : Lit × DataW H → Nat
  | (.string bytes, d) => bytes.length + uptoBulk d + 1
  | (_, d) => uptoBulk d + 1
 end
def uptoSmall : (H : Type) → List (DataW H) → Bool := fun _ ds => decide (uptoBulkAll ds ≤ 1048576)
def OpenSpec.upto (s : _root_.Go.ChangeSpec) : _root_.Go.OpenSpec := { _root_.Go.OpenSpec.ofChange s with cond := some uptoSmall }

/-- 'bedrocklaw01.KindNames', WHERE WHAT IT READS IS OF BULK AT MOST 1048576: true; the input reads as it did. -/
def kindNamesUptoRow : OpenClaim := { program := "ytgnkejdkfnkcoaa", sum := "4bad84c34834e1602c7dc9ad062fc672df4e6d63598c390c4a10cb677d0180c4", func := "bedrock/bedrocklaw01.KindNames", spec := "kindNames", apart := false, narrowed := true }
def KindNamesUptoSaid : Prop := kindNamesUptoRow.holds Try.pinned (OpenSpec.upto kindNamesSpec)

/-- 'bedrocklaw01.KindCells', WHERE WHAT IT READS IS OF BULK AT MOST 1048576: true; the input reads as it did. -/
def kindCellsUptoRow : OpenClaim := { program := "ytgnkejdkfnkcoaa", sum := "4bad84c34834e1602c7dc9ad062fc672df4e6d63598c390c4a10cb677d0180c4", func := "bedrock/bedrocklaw01.KindCells", spec := "kindCells", apart := false, narrowed := true }
def KindCellsUptoSaid : Prop := kindCellsUptoRow.holds Try.pinned (OpenSpec.upto kindCellsSpec)

/-- 'bedrocklaw01.KindBack', WHERE WHAT IT READS IS OF BULK AT MOST 1048576: true; the input reads as it did. -/
def kindBackUptoRow : OpenClaim := { program := "ytgnkejdkfnkcoaa", sum := "4bad84c34834e1602c7dc9ad062fc672df4e6d63598c390c4a10cb677d0180c4", func := "bedrock/bedrocklaw01.KindBack", spec := "kindBack", apart := false, narrowed := true }
def KindBackUptoSaid : Prop := kindBackUptoRow.holds Try.pinned (OpenSpec.upto kindBackSpec)

/-- 'bedrocklaw01.KindSorts', WHERE WHAT IT READS IS OF BULK AT MOST 1048576: true; the input reads as it did. -/
def kindSortsUptoRow : OpenClaim := { program := "ytgnkejdkfnkcoaa", sum := "4bad84c34834e1602c7dc9ad062fc672df4e6d63598c390c4a10cb677d0180c4", func := "bedrock/bedrocklaw01.KindSorts", spec := "kindSorts", apart := false, narrowed := true }
def KindSortsUptoSaid : Prop := kindSortsUptoRow.holds Try.pinned (OpenSpec.upto kindSortsSpec)

/-- 'bedrocklaw01.KindKnown', WHERE WHAT IT READS IS OF BULK AT MOST 1048576: true; the input reads as it did. -/
def kindKnownUptoRow : OpenClaim := { program := "ytgnkejdkfnkcoaa", sum := "4bad84c34834e1602c7dc9ad062fc672df4e6d63598c390c4a10cb677d0180c4", func := "bedrock/bedrocklaw01.KindKnown", spec := "kindKnown", apart := false, narrowed := true }
def KindKnownUptoSaid : Prop := kindKnownUptoRow.holds Try.pinned (OpenSpec.upto kindKnownSpec)

/-- 'bedrocklaw01.KindLaws', WHERE WHAT IT READS IS OF BULK AT MOST 1048576: true; the input reads as it did. -/
def kindLawsUptoRow : OpenClaim := { program := "ytgnkejdkfnkcoaa", sum := "4bad84c34834e1602c7dc9ad062fc672df4e6d63598c390c4a10cb677d0180c4", func := "bedrock/bedrocklaw01.KindLaws", spec := "kindLaws", apart := false, narrowed := true }
def KindLawsUptoSaid : Prop := kindLawsUptoRow.holds Try.pinned (OpenSpec.upto kindLawsSpec)

end Rows
end Go.Proofs.Ytgnkejdkfnkcoaa
