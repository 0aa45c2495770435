/-
  No cell of these rows narrows 'for every input' (looked for: loops, veiled, ifaces, maps, wideKeys, modest, calm, conditions, laid).
  DERIVED. THE GIVEN ROWS OF THIS SEAT. 4 by the template 'for every input the law returns true; each argument reads behind the call as it read before'; 0 by the template 'total and deterministic' (their statements: YtigblagodlfedaaTotals.lean).
  GIVEN WITH THE SEED: the statements are not yours to turn. If you find one false, say at which input.
  Laid BY PROGRAM, IN A SANDBOX (cutbox-rows.mjs): the forced cells as the released guide's own fill.sh prints them over the translation dc267490f1678100… (all of the seat's roots in one cut). By AI agents, Wed Nov 11 2026. No macro, syntax, notation, axiom, sorry.
-/
import Derived.Test.YtigblagodlfedaaChecked
import GoSem.Claim
import GoSem.ClaimJoined
import GoSem.ClaimMapViews
import Derived.JoinedTies
import Derived.KernelRfl
namespace Go.Proofs.Ytigblagodlfedaa
/- THE CELL 'sum', in the pinned program and in every row, IS THE sha256 OF THE DUMP (.gsa) THAT YtigblagodlfedaaProg.lean LOADS. Nothing in Lean hashes anything: it is a label: what it is worth is what the hold of that sum in a sandbox is worth. -/
noncomputable def Try.pinned : Pinned := { name := "ytigblagodlfedaa", sum := "dc267490f16781001e20f68c7d6182bfbf8d64fd94bbf83f0ba238cf8a116b3a", checked := Try.checked }
namespace Rows
def none {H : Type} : Left H := { results := [], args := [] }

/-- 'bedrocklaw29.LedgerTells': WHATEVER THE INPUT: true; the input reads as it did. -/
def ledgerTellsSpec : ChangeSpec := { name := "ledgerTells", fn := fun _ => fun
  | [d1, d2, d3] => { results := [.lit (.bool true)], args := [d1, d2, d3] }
  | _ => none }
def ledgerTellsRow : OpenClaim := { program := "ytigblagodlfedaa", sum := "dc267490f16781001e20f68c7d6182bfbf8d64fd94bbf83f0ba238cf8a116b3a", func := "bedrock/bedrocklaw29.LedgerTells", spec := "ledgerTells", plainKeys := false, apart := false }
def LedgerTellsSaid : Prop := ledgerTellsRow.holds Try.pinned (OpenSpec.ofChange ledgerTellsSpec)

/-- ITS FALSE NEIGHBOUR: 'it returns false'. Refute it at one input. -/
def ledgerTellsWrong : ChangeSpec := { name := "ledgerTells", fn := fun _ => fun
  | [d1, d2, d3] => { results := [.lit (.bool false)], args := [d1, d2, d3] }
  | _ => none }
def LedgerTellsWrongFalsely : Prop := ledgerTellsRow.holds Try.pinned (OpenSpec.ofChange ledgerTellsWrong)

/-- 'bedrocklaw29.LedgerCells': WHATEVER THE INPUT: true; the input reads as it did. -/
def ledgerCellsSpec : ChangeSpec := { name := "ledgerCells", fn := fun _ => fun
  | [d1, d2, d3, d4] => { results := [.lit (.bool true)], args := [d1, d2, d3, d4] }
  | _ => none }
def ledgerCellsRow : OpenClaim := { program := "ytigblagodlfedaa", sum := "dc267490f16781001e20f68c7d6182bfbf8d64fd94bbf83f0ba238cf8a116b3a", func := "bedrock/bedrocklaw29.LedgerCells", spec := "ledgerCells", plainKeys := false, apart := false }
def LedgerCellsSaid : Prop := ledgerCellsRow.holds Try.pinned (OpenSpec.ofChange ledgerCellsSpec)

/-- ITS FALSE NEIGHBOUR: 'it returns false'. Refute it at one input. -/
def ledgerCellsWrong : ChangeSpec := { name := "ledgerCells", fn := fun _ => fun
  | [d1, d2, d3, d4] => { results := [.lit (.bool false)], args := [d1, d2, d3, d4] }
  | _ => none }
def LedgerCellsWrongFalsely : Prop := ledgerCellsRow.holds Try.pinned (OpenSpec.ofChange ledgerCellsWrong)

/-- 'bedrocklaw29.LedgerTotals': WHATEVER THE INPUT: true; the input reads as it did. -/
def ledgerTotalsSpec : ChangeSpec := { name := "ledgerTotals", fn := fun _ => fun
  | [d1, d2] => { results := [.lit (.bool true)], args := [d1, d2] }
  | _ => none }
def ledgerTotalsRow : OpenClaim := { program := "ytigblagodlfedaa", sum := "dc267490f16781001e20f68c7d6182bfbf8d64fd94bbf83f0ba238cf8a116b3a", func := "bedrock/bedrocklaw29.LedgerTotals", spec := "ledgerTotals", plainKeys := false, apart := false }
def LedgerTotalsSaid : Prop := ledgerTotalsRow.holds Try.pinned (OpenSpec.ofChange ledgerTotalsSpec)

/-- ITS FALSE NEIGHBOUR: 'it returns false'. Refute it at one input. -/
def ledgerTotalsWrong : ChangeSpec := { name := "ledgerTotals", fn := fun _ => fun
  | [d1, d2] => { results := [.lit (.bool false)], args := [d1, d2] }
  | _ => none }
def LedgerTotalsWrongFalsely : Prop := ledgerTotalsRow.holds Try.pinned (OpenSpec.ofChange ledgerTotalsWrong)

/-- 'bedrocklaw29.LedgerKnown': WHATEVER THE INPUT: true; the input reads as it did. -/
def ledgerKnownSpec : ChangeSpec := { name := "ledgerKnown", fn := fun _ => fun
  | [] => { results := [.lit (.bool true)], args := [] }
  | _ => none }
def ledgerKnownRow : OpenClaim := { program := "ytigblagodlfedaa", sum := "dc267490f16781001e20f68c7d6182bfbf8d64fd94bbf83f0ba238cf8a116b3a", func := "bedrock/bedrocklaw29.LedgerKnown", spec := "ledgerKnown", plainKeys := false, apart := false }
def LedgerKnownSaid : Prop := ledgerKnownRow.holds Try.pinned (OpenSpec.ofChange ledgerKnownSpec)

/-- ITS FALSE NEIGHBOUR: 'it returns false'. Refute it at one input. -/
def ledgerKnownWrong : ChangeSpec := { name := "ledgerKnown", fn := fun _ => fun
  | [] => { results := [.lit (.bool false)], args := [] }
  | _ => none }
def LedgerKnownWrongFalsely : Prop := ledgerKnownRow.holds Try.pinned (OpenSpec.ofChange ledgerKnownWrong)

/- THE SECOND FORM. 'bulk': how many values and letters a reading holds, each counted each time it is reached (what is shared counts as often as it is met; a slice's spare places count too). A statement '..UptoSaid' is the law's where the arguments, and the package variables that the reading takes, are together of bulk at most 1048576: NARROWER than '..Said'. Prove '..Said' where nothing that the law and all that it calls make is longer than what came in: it says more and counts as full. Else prove '..UptoSaid'. A law counts once. -/
mutual
def uptoBulk {H : Type} : DataW H → Nat
  | .lit (.string bytes) => bytes.length + 1
  | .lit _ => 1
  | .nil => 1
  | .ptr d => uptoBulk d + 1
  | .slice elems spare => uptoBulkAll elems + uptoBulkAll spare + 1
  | .agg parts => uptoBulkAll parts + 1
  | .iface _ d => uptoBulk d + 1
  | .map entries => uptoBulkEntries entries + 1
  | .held _ => 1
def uptoBulkAll {H : Type} : List (DataW H) → Nat
  | [] => 0
  | d :: r => uptoBulk d + uptoBulkAll r
def uptoBulkEntries {H : Type} : List (Lit × DataW H) → Nat
  | [] => 0
  | x :: r => uptoBulkEntry x + uptoBulkEntries r
def uptoBulkEntry {H : Type} : Lit × DataW H → Nat
  | (.string bytes, d) => bytes.length + uptoBulk d + 1
  | (_, d) => uptoBulk d + 1
 end
def uptoSmall : (H : Type) → List (DataW H) → Bool := fun _ ds => decide (uptoBulkAll ds ≤ 1048576)
def OpenSpec.upto (s : _root_.Go.ChangeSpec) : _root_.Go.OpenSpec := { _root_.Go.OpenSpec.ofChange s with cond := some uptoSmall }

/-- 'bedrocklaw29.LedgerTells', WHERE WHAT IT READS IS OF BULK AT MOST 1048576: true; the input reads as it did. -/
def ledgerTellsUptoRow : OpenClaim := { program := "ytigblagodlfedaa", sum := "dc267490f16781001e20f68c7d6182bfbf8d64fd94bbf83f0ba238cf8a116b3a", func := "bedrock/bedrocklaw29.LedgerTells", spec := "ledgerTells", plainKeys := false, apart := false, narrowed := true }
def LedgerTellsUptoSaid : Prop := ledgerTellsUptoRow.holds Try.pinned (OpenSpec.upto ledgerTellsSpec)

/-- 'bedrocklaw29.LedgerCells', WHERE WHAT IT READS IS OF BULK AT MOST 1048576: true; the input reads as it did. -/
def ledgerCellsUptoRow : OpenClaim := { program := "ytigblagodlfedaa", sum := "dc267490f16781001e20f68c7d6182bfbf8d64fd94bbf83f0ba238cf8a116b3a", func := "bedrock/bedrocklaw29.LedgerCells", spec := "ledgerCells", plainKeys := false, apart := false, narrowed := true }
def LedgerCellsUptoSaid : Prop := ledgerCellsUptoRow.holds Try.pinned (OpenSpec.upto ledgerCellsSpec)

/-- 'bedrocklaw29.LedgerTotals', WHERE WHAT IT READS IS OF BULK AT MOST 1048576: true; the input reads as it did. -/
def ledgerTotalsUptoRow : OpenClaim := { program := "ytigblagodlfedaa", sum := "dc267490f16781001e20f68c7d6182bfbf8d64fd94bbf83f0ba238cf8a116b3a", func := "bedrock/bedrocklaw29.LedgerTotals", spec := "ledgerTotals", plainKeys := false, apart := false, narrowed := true }
def LedgerTotalsUptoSaid : Prop := ledgerTotalsUptoRow.holds Try.pinned (OpenSpec.upto ledgerTotalsSpec)

/-- 'bedrocklaw29.LedgerKnown', WHERE WHAT IT READS IS OF BULK AT MOST 1048576: true; the input reads as it did. -/
def ledgerKnownUptoRow : OpenClaim := { program := "ytigblagodlfedaa", sum := "dc267490f16781001e20f68c7d6182bfbf8d64fd94bbf83f0ba238cf8a116b3a", func := "bedrock/bedrocklaw29.LedgerKnown", spec := "ledgerKnown", plainKeys := false, apart := false, narrowed := true }
def LedgerKnownUptoSaid : Prop := ledgerKnownUptoRow.holds Try.pinned (OpenSpec.upto ledgerKnownSpec)

end Rows
end Go.Proofs.Ytigblagodlfedaa
