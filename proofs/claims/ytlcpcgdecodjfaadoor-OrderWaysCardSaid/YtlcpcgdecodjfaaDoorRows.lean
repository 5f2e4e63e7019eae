/-
  NARROWER THAN 'FOR EVERY INPUT', by the rows' own cells (each row's printed sentence says how): PlainTells: laid · PlainOne: laid · PlainWinner: laid · OrderOne: laid · OrderWays: laid · OrderNext: laid.
  DERIVED. THE GIVEN ROWS OF THIS SEAT. 6 by the template 'for every input the law returns true; each argument reads behind the call as it read before'; 0 by the template 'total and deterministic' (their statements: YtlcpcgdecodjfaaDoorTotals.lean).
  GIVEN WITH THE SEED: the statements are not yours to turn. If you find one false, say at which input.
  Laid BY PROGRAM, IN A SANDBOX (cutbox-rows.mjs): the forced cells as the released guide's own fill.sh prints them over the translation e9c44461e0a42ffe… (all of the seat's roots in one cut). By AI agents, Wed Nov 11 2026. No macro, syntax, notation, axiom, sorry.
-/
import Derived.Test.YtlcpcgdecodjfaaDoorChecked
import GoSem.Claim
import GoSem.ClaimJoined
import GoSem.ClaimMapViews
import Derived.JoinedTies
import Derived.KernelRfl
namespace Go.Proofs.YtlcpcgdecodjfaaDoor
/- THE CELL 'sum', in the pinned program and in every row, IS THE sha256 OF THE DUMP (.gsa) THAT YtlcpcgdecodjfaaDoorProg.lean LOADS. Nothing in Lean hashes anything: it is a label: what it is worth is what the hold of that sum in a sandbox is worth. -/
noncomputable def Tryd.pinned : Pinned := { name := "ytlcpcgdecodjfaadoor", sum := "e9c44461e0a42ffe2cf27f589eaee80e507b0c60435a0bdb63dc45df973390f5", checked := Tryd.checked }
namespace Rows
def none {H : Type} : Left H := { results := [], args := [] }

/- WHAT THE LISTED PACKAGE-LEVEL VARIABLES READ AS WHEN THE CALL BEGINS. Each datum BY PROGRAM (the guide's laid-datum.mjs) off the statement by which the dump's own 'gosem.cut.vars' lays the variable. In a bare row this is a premise. The card (YtlcpcgdecodjfaaDoorCards.lean) ties it to the program's text. -/
def laid_whitewash_region_objects {H : Type} : DataW H := .agg [.agg [.lit (.int .i64 0), .lit (.int .i64 0)], .agg [.lit (.int .i64 1), .lit (.int .i64 0)], .agg [.lit (.int .i64 1), .lit (.int .i64 2)], .agg [.lit (.int .i64 1), .lit (.int .i64 4)], .agg [.lit (.int .i64 2), .lit (.int .i64 4)], .agg [.lit (.int .i64 9), .lit (.int .i64 1)]]
def laid_whitewash_mix_there {H : Type} : DataW H := .agg [.agg [.lit (.int .u64 30), .lit (.int .u64 13787848793156543929)], .agg [.lit (.int .u64 27), .lit (.int .u64 10723151780598845931)], .agg [.lit (.int .u64 31), .lit (.int .u64 1)]]

/-- 'whitewashlaw14.PlainTells': WHATEVER THE INPUT: true; the input reads as it did. -/
def plainTellsSpec : ChangeSpec := { name := "plainTells", fn := fun _ => fun
  | [d1, d2, d3, d4, d5, d6, d7, d8, d9, d10, d11, d12] => { results := [.lit (.bool true)], args := [d1, d2, d3, d4, d5, d6, d7, d8, d9, d10, d11, d12] }
  | _ => none }
def plainTellsRow : OpenClaim := { program := "ytlcpcgdecodjfaadoor", sum := "e9c44461e0a42ffe2cf27f589eaee80e507b0c60435a0bdb63dc45df973390f5", func := "whitewash/whitewashlaw14.PlainTells", spec := "plainTells", inPlace := ["math.Float64frombits", "math.Float64bits"], unfollowed := true, recurses := true, named := ["whitewash/region.objects"], apart := false, laid := [("whitewash/region.objects", laid_whitewash_region_objects)] }
def PlainTellsSaid : Prop := plainTellsRow.holds Tryd.pinned (OpenSpec.ofChange plainTellsSpec)

/-- ITS FALSE NEIGHBOUR: 'it returns false'. Refute it at one input. -/
def plainTellsWrong : ChangeSpec := { name := "plainTells", fn := fun _ => fun
  | [d1, d2, d3, d4, d5, d6, d7, d8, d9, d10, d11, d12] => { results := [.lit (.bool false)], args := [d1, d2, d3, d4, d5, d6, d7, d8, d9, d10, d11, d12] }
  | _ => none }
def PlainTellsWrongFalsely : Prop := plainTellsRow.holds Tryd.pinned (OpenSpec.ofChange plainTellsWrong)

/-- 'whitewashlaw14.PlainOne': WHATEVER THE INPUT: true; the input reads as it did. -/
def plainOneSpec : ChangeSpec := { name := "plainOne", fn := fun _ => fun
  | [d1, d2, d3, d4] => { results := [.lit (.bool true)], args := [d1, d2, d3, d4] }
  | _ => none }
def plainOneRow : OpenClaim := { program := "ytlcpcgdecodjfaadoor", sum := "e9c44461e0a42ffe2cf27f589eaee80e507b0c60435a0bdb63dc45df973390f5", func := "whitewash/whitewashlaw14.PlainOne", spec := "plainOne", inPlace := ["math.Float64frombits", "math.Float64bits"], unfollowed := true, recurses := true, named := ["whitewash/region.objects"], apart := false, laid := [("whitewash/region.objects", laid_whitewash_region_objects)] }
def PlainOneSaid : Prop := plainOneRow.holds Tryd.pinned (OpenSpec.ofChange plainOneSpec)

/-- ITS FALSE NEIGHBOUR: 'it returns false'. Refute it at one input. -/
def plainOneWrong : ChangeSpec := { name := "plainOne", fn := fun _ => fun
  | [d1, d2, d3, d4] => { results := [.lit (.bool false)], args := [d1, d2, d3, d4] }
  | _ => none }
def PlainOneWrongFalsely : Prop := plainOneRow.holds Tryd.pinned (OpenSpec.ofChange plainOneWrong)

/-- 'whitewashlaw14.PlainWinner': WHATEVER THE INPUT: true; the input reads as it did. -/
def plainWinnerSpec : ChangeSpec := { name := "plainWinner", fn := fun _ => fun
  | [d1, d2] => { results := [.lit (.bool true)], args := [d1, d2] }
  | _ => none }
def plainWinnerRow : OpenClaim := { program := "ytlcpcgdecodjfaadoor", sum := "e9c44461e0a42ffe2cf27f589eaee80e507b0c60435a0bdb63dc45df973390f5", func := "whitewash/whitewashlaw14.PlainWinner", spec := "plainWinner", inPlace := ["math.Float64frombits", "math.Float64bits"], unfollowed := true, recurses := true, named := ["whitewash/region.objects"], apart := false, laid := [("whitewash/region.objects", laid_whitewash_region_objects)] }
def PlainWinnerSaid : Prop := plainWinnerRow.holds Tryd.pinned (OpenSpec.ofChange plainWinnerSpec)

/-- ITS FALSE NEIGHBOUR: 'it returns false'. Refute it at one input. -/
def plainWinnerWrong : ChangeSpec := { name := "plainWinner", fn := fun _ => fun
  | [d1, d2] => { results := [.lit (.bool false)], args := [d1, d2] }
  | _ => none }
def PlainWinnerWrongFalsely : Prop := plainWinnerRow.holds Tryd.pinned (OpenSpec.ofChange plainWinnerWrong)

/-- 'whitewashlaw13.OrderOne': WHATEVER THE INPUT: true; the input reads as it did. -/
def orderOneSpec : ChangeSpec := { name := "orderOne", fn := fun _ => fun
  | [d1, d2, d3] => { results := [.lit (.bool true)], args := [d1, d2, d3] }
  | _ => none }
def orderOneRow : OpenClaim := { program := "ytlcpcgdecodjfaadoor", sum := "e9c44461e0a42ffe2cf27f589eaee80e507b0c60435a0bdb63dc45df973390f5", func := "whitewash/whitewashlaw13.OrderOne", spec := "orderOne", inPlace := ["math.Float64frombits", "slices.overlaps[whitewash/order.entry]"], unfollowed := true, recurses := true, named := ["whitewash/mix.there", "whitewash/region.objects"], apart := false, laid := [("whitewash/mix.there", laid_whitewash_mix_there), ("whitewash/region.objects", laid_whitewash_region_objects)] }
def OrderOneSaid : Prop := orderOneRow.holds Tryd.pinned (OpenSpec.ofChange orderOneSpec)

/-- ITS FALSE NEIGHBOUR: 'it returns false'. Refute it at one input. -/
def orderOneWrong : ChangeSpec := { name := "orderOne", fn := fun _ => fun
  | [d1, d2, d3] => { results := [.lit (.bool false)], args := [d1, d2, d3] }
  | _ => none }
def OrderOneWrongFalsely : Prop := orderOneRow.holds Tryd.pinned (OpenSpec.ofChange orderOneWrong)

/-- 'whitewashlaw13.OrderWays': WHATEVER THE INPUT: true; the input reads as it did. -/
def orderWaysSpec : ChangeSpec := { name := "orderWays", fn := fun _ => fun
  | [d1, d2, d3, d4] => { results := [.lit (.bool true)], args := [d1, d2, d3, d4] }
  | _ => none }
def orderWaysRow : OpenClaim := { program := "ytlcpcgdecodjfaadoor", sum := "e9c44461e0a42ffe2cf27f589eaee80e507b0c60435a0bdb63dc45df973390f5", func := "whitewash/whitewashlaw13.OrderWays", spec := "orderWays", inPlace := ["math.Float64frombits", "slices.overlaps[whitewash/order.entry]"], unfollowed := true, recurses := true, named := ["whitewash/mix.there", "whitewash/region.objects"], apart := false, laid := [("whitewash/mix.there", laid_whitewash_mix_there), ("whitewash/region.objects", laid_whitewash_region_objects)] }
def OrderWaysSaid : Prop := orderWaysRow.holds Tryd.pinned (OpenSpec.ofChange orderWaysSpec)

/-- ITS FALSE NEIGHBOUR: 'it returns false'. Refute it at one input. -/
def orderWaysWrong : ChangeSpec := { name := "orderWays", fn := fun _ => fun
  | [d1, d2, d3, d4] => { results := [.lit (.bool false)], args := [d1, d2, d3, d4] }
  | _ => none }
def OrderWaysWrongFalsely : Prop := orderWaysRow.holds Tryd.pinned (OpenSpec.ofChange orderWaysWrong)

/-- 'whitewashlaw13.OrderNext': WHATEVER THE INPUT: true; the input reads as it did. -/
def orderNextSpec : ChangeSpec := { name := "orderNext", fn := fun _ => fun
  | [d1, d2, d3, d4] => { results := [.lit (.bool true)], args := [d1, d2, d3, d4] }
  | _ => none }
def orderNextRow : OpenClaim := { program := "ytlcpcgdecodjfaadoor", sum := "e9c44461e0a42ffe2cf27f589eaee80e507b0c60435a0bdb63dc45df973390f5", func := "whitewash/whitewashlaw13.OrderNext", spec := "orderNext", inPlace := ["math.Float64frombits", "slices.overlaps[whitewash/order.entry]"], unfollowed := true, recurses := true, named := ["whitewash/mix.there", "whitewash/region.objects"], apart := false, laid := [("whitewash/mix.there", laid_whitewash_mix_there), ("whitewash/region.objects", laid_whitewash_region_objects)] }
def OrderNextSaid : Prop := orderNextRow.holds Tryd.pinned (OpenSpec.ofChange orderNextSpec)

/-- ITS FALSE NEIGHBOUR: 'it returns false'. Refute it at one input. -/
def orderNextWrong : ChangeSpec := { name := "orderNext", fn := fun _ => fun
  | [d1, d2, d3, d4] => { results := [.lit (.bool false)], args := [d1, d2, d3, d4] }
  | _ => none }
def OrderNextWrongFalsely : Prop := orderNextRow.holds Tryd.pinned (OpenSpec.ofChange orderNextWrong)

/- THE SECOND FORM. 'bulk': how many values and letters a reading holds, each counted each time it is reached (what is shared counts as often as it is met; a slice's spare places count too). A statement '..UptoSaid' is the law's where the arguments, and the package variables that the reading takes, are together of bulk at most 1048576: NARROWER than '..Said'. Prove '..Said' where nothing that the law and all that it calls make is longer than what came in: it says more and counts as full. Else prove '..UptoSaid'. A law counts once. -/
mutual
def uptoBulk {H : Type} : DataW H → Nat
  | .lit (.string bytes) => bytes.length + 1
  | .lit _ => 1
  | .nil => 1
  | .ptr d => uptoBulk d + 1
  | .slice elems spare => uptoBulkAll elems + uptoBulkAll spare + 1
  | .agg parts => uptoBulkAll parts + 1
  | .iface _ d => uptoBulk d + 1
  | .map entries => uptoBulkEntries entries + 1
  | .held _ => 1
def uptoBulkAll {H : Type} : List (DataW H) → Nat
  | [] => 0
  | d :: r => uptoBulk d + uptoBulkAll r
def uptoBulkEntries {H : Type} : List (Lit × DataW H) → Nat
  | [] => 0
  | x :: r => uptoBulkEntry x + uptoBulkEntries r
def uptoBulkEntry {H : Type} : Lit × DataW H → Nat
  | (.string bytes, d) => bytes.length + uptoBulk d + 1
  | (_, d) => uptoBulk d + 1
 end
def uptoSmall : (H : Type) → List (DataW H) → Bool := fun _ ds => decide (uptoBulkAll ds ≤ 1048576)
def OpenSpec.upto (s : _root_.Go.ChangeSpec) : _root_.Go.OpenSpec := { _root_.Go.OpenSpec.ofChange s with cond := some uptoSmall }

/-- 'whitewashlaw14.PlainTells', WHERE WHAT IT READS IS OF BULK AT MOST 1048576: true; the input reads as it did. -/
def plainTellsUptoRow : OpenClaim := { program := "ytlcpcgdecodjfaadoor", sum := "e9c44461e0a42ffe2cf27f589eaee80e507b0c60435a0bdb63dc45df973390f5", func := "whitewash/whitewashlaw14.PlainTells", spec := "plainTells", inPlace := ["math.Float64frombits", "math.Float64bits"], unfollowed := true, recurses := true, named := ["whitewash/region.objects"], apart := false, laid := [("whitewash/region.objects", laid_whitewash_region_objects)], narrowed := true }
def PlainTellsUptoSaid : Prop := plainTellsUptoRow.holds Tryd.pinned (OpenSpec.upto plainTellsSpec)

/-- 'whitewashlaw14.PlainOne', WHERE WHAT IT READS IS OF BULK AT MOST 1048576: true; the input reads as it did. -/
def plainOneUptoRow : OpenClaim := { program := "ytlcpcgdecodjfaadoor", sum := "e9c44461e0a42ffe2cf27f589eaee80e507b0c60435a0bdb63dc45df973390f5", func := "whitewash/whitewashlaw14.PlainOne", spec := "plainOne", inPlace := ["math.Float64frombits", "math.Float64bits"], unfollowed := true, recurses := true, named := ["whitewash/region.objects"], apart := false, laid := [("whitewash/region.objects", laid_whitewash_region_objects)], narrowed := true }
def PlainOneUptoSaid : Prop := plainOneUptoRow.holds Tryd.pinned (OpenSpec.upto plainOneSpec)

/-- 'whitewashlaw14.PlainWinner', WHERE WHAT IT READS IS OF BULK AT MOST 1048576: true; the input reads as it did. -/
def plainWinnerUptoRow : OpenClaim := { program := "ytlcpcgdecodjfaadoor", sum := "e9c44461e0a42ffe2cf27f589eaee80e507b0c60435a0bdb63dc45df973390f5", func := "whitewash/whitewashlaw14.PlainWinner", spec := "plainWinner", inPlace := ["math.Float64frombits", "math.Float64bits"], unfollowed := true, recurses := true, named := ["whitewash/region.objects"], apart := false, laid := [("whitewash/region.objects", laid_whitewash_region_objects)], narrowed := true }
def PlainWinnerUptoSaid : Prop := plainWinnerUptoRow.holds Tryd.pinned (OpenSpec.upto plainWinnerSpec)

/-- 'whitewashlaw13.OrderOne', WHERE WHAT IT READS IS OF BULK AT MOST 1048576: true; the input reads as it did. -/
def orderOneUptoRow : OpenClaim := { program := "ytlcpcgdecodjfaadoor", sum := "e9c44461e0a42ffe2cf27f589eaee80e507b0c60435a0bdb63dc45df973390f5", func := "whitewash/whitewashlaw13.OrderOne", spec := "orderOne", inPlace := ["math.Float64frombits", "slices.overlaps[whitewash/order.entry]"], unfollowed := true, recurses := true, named := ["whitewash/mix.there", "whitewash/region.objects"], apart := false, laid := [("whitewash/mix.there", laid_whitewash_mix_there), ("whitewash/region.objects", laid_whitewash_region_objects)], narrowed := true }
def OrderOneUptoSaid : Prop := orderOneUptoRow.holds Tryd.pinned (OpenSpec.upto orderOneSpec)

/-- 'whitewashlaw13.OrderWays', WHERE WHAT IT READS IS OF BULK AT MOST 1048576: true; the input reads as it did. -/
def orderWaysUptoRow : OpenClaim := { program := "ytlcpcgdecodjfaadoor", sum := "e9c44461e0a42ffe2cf27f589eaee80e507b0c60435a0bdb63dc45df973390f5", func := "whitewash/whitewashlaw13.OrderWays", spec := "orderWays", inPlace := ["math.Float64frombits", "slices.overlaps[whitewash/order.entry]"], unfollowed := true, recurses := true, named := ["whitewash/mix.there", "whitewash/region.objects"], apart := false, laid := [("whitewash/mix.there", laid_whitewash_mix_there), ("whitewash/region.objects", laid_whitewash_region_objects)], narrowed := true }
def OrderWaysUptoSaid : Prop := orderWaysUptoRow.holds Tryd.pinned (OpenSpec.upto orderWaysSpec)

/-- 'whitewashlaw13.OrderNext', WHERE WHAT IT READS IS OF BULK AT MOST 1048576: true; the input reads as it did. -/
def orderNextUptoRow : OpenClaim := { program := "ytlcpcgdecodjfaadoor", sum := "e9c44461e0a42ffe2cf27f589eaee80e507b0c60435a0bdb63dc45df973390f5", func := "whitewash/whitewashlaw13.OrderNext", spec := "orderNext", inPlace := ["math.Float64frombits", "slices.overlaps[whitewash/order.entry]"], unfollowed := true, recurses := true, named := ["whitewash/mix.there", "whitewash/region.objects"], apart := false, laid := [("whitewash/mix.there", laid_whitewash_mix_there), ("whitewash/region.objects", laid_whitewash_region_objects)], narrowed := true }
def OrderNextUptoSaid : Prop := orderNextUptoRow.holds Tryd.pinned (OpenSpec.upto orderNextSpec)

end Rows
end Go.Proofs.YtlcpcgdecodjfaaDoor
