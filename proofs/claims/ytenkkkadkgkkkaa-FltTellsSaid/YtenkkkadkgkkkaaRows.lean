/-
  No cell of these rows narrows 'for every input' (looked for: loops, veiled, ifaces, maps, wideKeys, modest, calm, conditions, laid).
  DERIVED. THE GIVEN ROWS OF THIS SEAT. 8 by the template 'for every input the law returns true; each argument reads behind the call as it read before'; 0 by the template 'total and deterministic' (their statements: YtenkkkadkgkkkaaTotals.lean).
  GIVEN WITH THE SEED: the statements are not yours to turn. If you find one false, say at which input.
  Laid BY PROGRAM, IN A SANDBOX (cutbox-rows.mjs): the forced cells as the released guide's own fill.sh prints them over the translation 85a4bf8dc00d6d4a… (all of the seat's roots in one cut). By AI agents, Wed Nov 11 2026. No macro, syntax, notation, axiom, sorry.
-/
import Derived.Test.YtenkkkadkgkkkaaChecked
import GoSem.Claim
import GoSem.ClaimJoined
import GoSem.ClaimMapViews
import Derived.JoinedTies
import Derived.KernelRfl
namespace Go.Proofs.Ytenkkkadkgkkkaa
/- THE CELL 'sum', in the pinned program and in every row, IS THE sha256 OF THE DUMP (.gsa) THAT YtenkkkadkgkkkaaProg.lean LOADS. Nothing in Lean hashes anything: it is a label: what it is worth is what the hold of that sum in a sandbox is worth. -/
noncomputable def Try.pinned : Pinned := { name := "ytenkkkadkgkkkaa", sum := "85a4bf8dc00d6d4a6a5febf8b280b8f173c3cb8652fcb13d2eef392fef384c94", checked := Try.checked }
namespace Rows
def none {H : Type} : Left H := { results := [], args := [] }

/-- 'whitewashlaw01.FltTells': WHATEVER THE INPUT: true; the input reads as it did. -/
def fltTellsSpec : ChangeSpec := { name := "fltTells", fn := fun _ => fun
  | [d1, d2, d3] => { results := [.lit (.bool true)], args := [d1, d2, d3] }
  | _ => none }
def fltTellsRow : OpenClaim := { program := "ytenkkkadkgkkkaa", sum := "85a4bf8dc00d6d4a6a5febf8b280b8f173c3cb8652fcb13d2eef392fef384c94", func := "whitewash/whitewashlaw01.FltTells", spec := "fltTells", inPlace := ["math.Float64frombits", "math.Float64bits"], apart := false }
def FltTellsSaid : Prop := fltTellsRow.holds Try.pinned (OpenSpec.ofChange fltTellsSpec)

/-- ITS FALSE NEIGHBOUR: 'it returns false'. Refute it at one input. -/
def fltTellsWrong : ChangeSpec := { name := "fltTells", fn := fun _ => fun
  | [d1, d2, d3] => { results := [.lit (.bool false)], args := [d1, d2, d3] }
  | _ => none }
def FltTellsWrongFalsely : Prop := fltTellsRow.holds Try.pinned (OpenSpec.ofChange fltTellsWrong)

/-- 'whitewashlaw01.FltNear': WHATEVER THE INPUT: true; the input reads as it did. -/
def fltNearSpec : ChangeSpec := { name := "fltNear", fn := fun _ => fun
  | [d1, d2, d3, d4, d5, d6] => { results := [.lit (.bool true)], args := [d1, d2, d3, d4, d5, d6] }
  | _ => none }
def fltNearRow : OpenClaim := { program := "ytenkkkadkgkkkaa", sum := "85a4bf8dc00d6d4a6a5febf8b280b8f173c3cb8652fcb13d2eef392fef384c94", func := "whitewash/whitewashlaw01.FltNear", spec := "fltNear", inPlace := ["math.Float64frombits", "math.Float64bits"], apart := false }
def FltNearSaid : Prop := fltNearRow.holds Try.pinned (OpenSpec.ofChange fltNearSpec)

/-- ITS FALSE NEIGHBOUR: 'it returns false'. Refute it at one input. -/
def fltNearWrong : ChangeSpec := { name := "fltNear", fn := fun _ => fun
  | [d1, d2, d3, d4, d5, d6] => { results := [.lit (.bool false)], args := [d1, d2, d3, d4, d5, d6] }
  | _ => none }
def FltNearWrongFalsely : Prop := fltNearRow.holds Try.pinned (OpenSpec.ofChange fltNearWrong)

/-- 'whitewashlaw01.FltOrder': WHATEVER THE INPUT: true; the input reads as it did. -/
def fltOrderSpec : ChangeSpec := { name := "fltOrder", fn := fun _ => fun
  | [d1, d2, d3] => { results := [.lit (.bool true)], args := [d1, d2, d3] }
  | _ => none }
def fltOrderRow : OpenClaim := { program := "ytenkkkadkgkkkaa", sum := "85a4bf8dc00d6d4a6a5febf8b280b8f173c3cb8652fcb13d2eef392fef384c94", func := "whitewash/whitewashlaw01.FltOrder", spec := "fltOrder", inPlace := ["math.Float64frombits", "math.Float64bits"], apart := false }
def FltOrderSaid : Prop := fltOrderRow.holds Try.pinned (OpenSpec.ofChange fltOrderSpec)

/-- ITS FALSE NEIGHBOUR: 'it returns false'. Refute it at one input. -/
def fltOrderWrong : ChangeSpec := { name := "fltOrder", fn := fun _ => fun
  | [d1, d2, d3] => { results := [.lit (.bool false)], args := [d1, d2, d3] }
  | _ => none }
def FltOrderWrongFalsely : Prop := fltOrderRow.holds Try.pinned (OpenSpec.ofChange fltOrderWrong)

/-- 'whitewashlaw01.FltNumbers': WHATEVER THE INPUT: true; the input reads as it did. -/
def fltNumbersSpec : ChangeSpec := { name := "fltNumbers", fn := fun _ => fun
  | [d1, d2] => { results := [.lit (.bool true)], args := [d1, d2] }
  | _ => none }
def fltNumbersRow : OpenClaim := { program := "ytenkkkadkgkkkaa", sum := "85a4bf8dc00d6d4a6a5febf8b280b8f173c3cb8652fcb13d2eef392fef384c94", func := "whitewash/whitewashlaw01.FltNumbers", spec := "fltNumbers", inPlace := ["math.Float64frombits", "math.Float64bits"], apart := false }
def FltNumbersSaid : Prop := fltNumbersRow.holds Try.pinned (OpenSpec.ofChange fltNumbersSpec)

/-- ITS FALSE NEIGHBOUR: 'it returns false'. Refute it at one input. -/
def fltNumbersWrong : ChangeSpec := { name := "fltNumbers", fn := fun _ => fun
  | [d1, d2] => { results := [.lit (.bool false)], args := [d1, d2] }
  | _ => none }
def FltNumbersWrongFalsely : Prop := fltNumbersRow.holds Try.pinned (OpenSpec.ofChange fltNumbersWrong)

/-- 'whitewashlaw01.FltBoth': WHATEVER THE INPUT: true; the input reads as it did. -/
def fltBothSpec : ChangeSpec := { name := "fltBoth", fn := fun _ => fun
  | [d1, d2, d3] => { results := [.lit (.bool true)], args := [d1, d2, d3] }
  | _ => none }
def fltBothRow : OpenClaim := { program := "ytenkkkadkgkkkaa", sum := "85a4bf8dc00d6d4a6a5febf8b280b8f173c3cb8652fcb13d2eef392fef384c94", func := "whitewash/whitewashlaw01.FltBoth", spec := "fltBoth", inPlace := ["math.Float64frombits", "math.Float64bits"], apart := false }
def FltBothSaid : Prop := fltBothRow.holds Try.pinned (OpenSpec.ofChange fltBothSpec)

/-- ITS FALSE NEIGHBOUR: 'it returns false'. Refute it at one input. -/
def fltBothWrong : ChangeSpec := { name := "fltBoth", fn := fun _ => fun
  | [d1, d2, d3] => { results := [.lit (.bool false)], args := [d1, d2, d3] }
  | _ => none }
def FltBothWrongFalsely : Prop := fltBothRow.holds Try.pinned (OpenSpec.ofChange fltBothWrong)

/-- 'whitewashlaw01.FltTwice': WHATEVER THE INPUT: true; the input reads as it did. -/
def fltTwiceSpec : ChangeSpec := { name := "fltTwice", fn := fun _ => fun
  | [d] => { results := [.lit (.bool true)], args := [d] }
  | _ => none }
def fltTwiceRow : OpenClaim := { program := "ytenkkkadkgkkkaa", sum := "85a4bf8dc00d6d4a6a5febf8b280b8f173c3cb8652fcb13d2eef392fef384c94", func := "whitewash/whitewashlaw01.FltTwice", spec := "fltTwice", inPlace := ["math.Float64frombits", "math.Float64bits"], apart := false }
def FltTwiceSaid : Prop := fltTwiceRow.holds Try.pinned (OpenSpec.ofChange fltTwiceSpec)

/-- ITS FALSE NEIGHBOUR: 'it returns false'. Refute it at one input. -/
def fltTwiceWrong : ChangeSpec := { name := "fltTwice", fn := fun _ => fun
  | [d] => { results := [.lit (.bool false)], args := [d] }
  | _ => none }
def FltTwiceWrongFalsely : Prop := fltTwiceRow.holds Try.pinned (OpenSpec.ofChange fltTwiceWrong)

/-- 'whitewashlaw01.FltNothing': WHATEVER THE INPUT: true; the input reads as it did. -/
def fltNothingSpec : ChangeSpec := { name := "fltNothing", fn := fun _ => fun
  | [d1, d2] => { results := [.lit (.bool true)], args := [d1, d2] }
  | _ => none }
def fltNothingRow : OpenClaim := { program := "ytenkkkadkgkkkaa", sum := "85a4bf8dc00d6d4a6a5febf8b280b8f173c3cb8652fcb13d2eef392fef384c94", func := "whitewash/whitewashlaw01.FltNothing", spec := "fltNothing", inPlace := ["math.Float64frombits", "math.Float64bits"], apart := false }
def FltNothingSaid : Prop := fltNothingRow.holds Try.pinned (OpenSpec.ofChange fltNothingSpec)

/-- ITS FALSE NEIGHBOUR: 'it returns false'. Refute it at one input. -/
def fltNothingWrong : ChangeSpec := { name := "fltNothing", fn := fun _ => fun
  | [d1, d2] => { results := [.lit (.bool false)], args := [d1, d2] }
  | _ => none }
def FltNothingWrongFalsely : Prop := fltNothingRow.holds Try.pinned (OpenSpec.ofChange fltNothingWrong)

/-- 'whitewashtop.Names': WHATEVER THE INPUT: true; the input reads as it did. -/
def namesSpec : ChangeSpec := { name := "names", fn := fun _ => fun
  | [] => { results := [.lit (.bool true)], args := [] }
  | _ => none }
def namesRow : OpenClaim := { program := "ytenkkkadkgkkkaa", sum := "85a4bf8dc00d6d4a6a5febf8b280b8f173c3cb8652fcb13d2eef392fef384c94", func := "whitewash/whitewashtop.Names", spec := "names", apart := false }
def NamesSaid : Prop := namesRow.holds Try.pinned (OpenSpec.ofChange namesSpec)

/-- ITS FALSE NEIGHBOUR: 'it returns false'. Refute it at one input. -/
def namesWrong : ChangeSpec := { name := "names", fn := fun _ => fun
  | [] => { results := [.lit (.bool false)], args := [] }
  | _ => none }
def NamesWrongFalsely : Prop := namesRow.holds Try.pinned (OpenSpec.ofChange namesWrong)

/- THE SECOND FORM. 'bulk': how many values and letters a reading holds, each counted each time it is reached (what is shared counts as often as it is met; a slice's spare places count too). A statement '..UptoSaid' is the law's where the arguments, and the package variables that the reading takes, are together of bulk at most 1048576: NARROWER than '..Said'. Prove '..Said' where nothing that the law and all that it calls make is longer than what came in: it says more and counts as full. Else prove '..UptoSaid'. A law counts once. -/
mutual
def uptoBulk {H : Type} : DataW H → Nat
  | .lit (.string bytes) => bytes.length + 1
  | .lit _ => 1
  | .nil => 1
  | .ptr d => uptoBulk d + 1
  | .slice elems spare => uptoBulkAll elems + uptoBulkAll spare + 1
  | .agg parts => uptoBulkAll parts + 1
  | .iface _ d => uptoBulk d + 1
  | .map entries => uptoBulkEntries entries + 1
  | .held _ => 1
def uptoBulkAll {H : Type} : List (DataW H) → Nat
  | [] => 0
  | d :: r => uptoBulk d + uptoBulkAll r
def uptoBulkEntries {H : Type} : List (Lit × DataW H) → Nat
  | [] => 0
  | x :: r => uptoBulkEntry x + uptoBulkEntries r
def uptoBulkEntry {H : Type} : Lit × DataW H → Nat
  | (.string bytes, d) => bytes.length + uptoBulk d + 1
  | (_, d) => uptoBulk d + 1
 end
def uptoSmall : (H : Type) → List (DataW H) → Bool := fun _ ds => decide (uptoBulkAll ds ≤ 1048576)
def OpenSpec.upto (s : _root_.Go.ChangeSpec) : _root_.Go.OpenSpec := { _root_.Go.OpenSpec.ofChange s with cond := some uptoSmall }

/-- 'whitewashlaw01.FltTells', WHERE WHAT IT READS IS OF BULK AT MOST 1048576: true; the input reads as it did. -/
def fltTellsUptoRow : OpenClaim := { program := "ytenkkkadkgkkkaa", sum := "85a4bf8dc00d6d4a6a5febf8b280b8f173c3cb8652fcb13d2eef392fef384c94", func := "whitewash/whitewashlaw01.FltTells", spec := "fltTells", inPlace := ["math.Float64frombits", "math.Float64bits"], apart := false, narrowed := true }
def FltTellsUptoSaid : Prop := fltTellsUptoRow.holds Try.pinned (OpenSpec.upto fltTellsSpec)

/-- 'whitewashlaw01.FltNear', WHERE WHAT IT READS IS OF BULK AT MOST 1048576: true; the input reads as it did. -/
def fltNearUptoRow : OpenClaim := { program := "ytenkkkadkgkkkaa", sum := "85a4bf8dc00d6d4a6a5febf8b280b8f173c3cb8652fcb13d2eef392fef384c94", func := "whitewash/whitewashlaw01.FltNear", spec := "fltNear", inPlace := ["math.Float64frombits", "math.Float64bits"], apart := false, narrowed := true }
def FltNearUptoSaid : Prop := fltNearUptoRow.holds Try.pinned (OpenSpec.upto fltNearSpec)

/-- 'whitewashlaw01.FltOrder', WHERE WHAT IT READS IS OF BULK AT MOST 1048576: true; the input reads as it did. -/
def fltOrderUptoRow : OpenClaim := { program := "ytenkkkadkgkkkaa", sum := "85a4bf8dc00d6d4a6a5febf8b280b8f173c3cb8652fcb13d2eef392fef384c94", func := "whitewash/whitewashlaw01.FltOrder", spec := "fltOrder", inPlace := ["math.Float64frombits", "math.Float64bits"], apart := false, narrowed := true }
def FltOrderUptoSaid : Prop := fltOrderUptoRow.holds Try.pinned (OpenSpec.upto fltOrderSpec)

/-- 'whitewashlaw01.FltNumbers', WHERE WHAT IT READS IS OF BULK AT MOST 1048576: true; the input reads as it did. -/
def fltNumbersUptoRow : OpenClaim := { program := "ytenkkkadkgkkkaa", sum := "85a4bf8dc00d6d4a6a5febf8b280b8f173c3cb8652fcb13d2eef392fef384c94", func := "whitewash/whitewashlaw01.FltNumbers", spec := "fltNumbers", inPlace := ["math.Float64frombits", "math.Float64bits"], apart := false, narrowed := true }
def FltNumbersUptoSaid : Prop := fltNumbersUptoRow.holds Try.pinned (OpenSpec.upto fltNumbersSpec)

/-- 'whitewashlaw01.FltBoth', WHERE WHAT IT READS IS OF BULK AT MOST 1048576: true; the input reads as it did. -/
def fltBothUptoRow : OpenClaim := { program := "ytenkkkadkgkkkaa", sum := "85a4bf8dc00d6d4a6a5febf8b280b8f173c3cb8652fcb13d2eef392fef384c94", func := "whitewash/whitewashlaw01.FltBoth", spec := "fltBoth", inPlace := ["math.Float64frombits", "math.Float64bits"], apart := false, narrowed := true }
def FltBothUptoSaid : Prop := fltBothUptoRow.holds Try.pinned (OpenSpec.upto fltBothSpec)

/-- 'whitewashlaw01.FltTwice', WHERE WHAT IT READS IS OF BULK AT MOST 1048576: true; the input reads as it did. -/
def fltTwiceUptoRow : OpenClaim := { program := "ytenkkkadkgkkkaa", sum := "85a4bf8dc00d6d4a6a5febf8b280b8f173c3cb8652fcb13d2eef392fef384c94", func := "whitewash/whitewashlaw01.FltTwice", spec := "fltTwice", inPlace := ["math.Float64frombits", "math.Float64bits"], apart := false, narrowed := true }
def FltTwiceUptoSaid : Prop := fltTwiceUptoRow.holds Try.pinned (OpenSpec.upto fltTwiceSpec)

/-- 'whitewashlaw01.FltNothing', WHERE WHAT IT READS IS OF BULK AT MOST 1048576: true; the input reads as it did. -/
def fltNothingUptoRow : OpenClaim := { program := "ytenkkkadkgkkkaa", sum := "85a4bf8dc00d6d4a6a5febf8b280b8f173c3cb8652fcb13d2eef392fef384c94", func := "whitewash/whitewashlaw01.FltNothing", spec := "fltNothing", inPlace := ["math.Float64frombits", "math.Float64bits"], apart := false, narrowed := true }
def FltNothingUptoSaid : Prop := fltNothingUptoRow.holds Try.pinned (OpenSpec.upto fltNothingSpec)

/-- 'whitewashtop.Names', WHERE WHAT IT READS IS OF BULK AT MOST 1048576: true; the input reads as it did. -/
def namesUptoRow : OpenClaim := { program := "ytenkkkadkgkkkaa", sum := "85a4bf8dc00d6d4a6a5febf8b280b8f173c3cb8652fcb13d2eef392fef384c94", func := "whitewash/whitewashtop.Names", spec := "names", apart := false, narrowed := true }
def NamesUptoSaid : Prop := namesUptoRow.holds Try.pinned (OpenSpec.upto namesSpec)

end Rows
end Go.Proofs.Ytenkkkadkgkkkaa
