/-
  NARROWER THAN 'FOR EVERY INPUT', by the rows' own cells (each row's printed sentence says how): OrderTells: laid · OrderRises: laid.
  DERIVED. THE GIVEN ROWS OF THIS SEAT. 2 by the template 'for every input the law returns true; each argument reads behind the call as it read before'; 0 by the template 'total and deterministic' (their statements: YtlcpcgdecodjfaaGreatDoorTotals.lean).
  GIVEN WITH THE SEED: the statements are not yours to turn. If you find one false, say at which input.
  Laid BY PROGRAM, IN A SANDBOX (cutbox-rows.mjs): the forced cells as the released guide's own fill.sh prints them over the translation d36aa76804e09fba… (all of the seat's roots in one cut). By AI agents, Wed Nov 11 2026. No macro, syntax, notation, axiom, sorry.
-/
import Derived.Test.YtlcpcgdecodjfaaGreatDoorChecked
import GoSem.Claim
import GoSem.ClaimJoined
import GoSem.ClaimMapViews
import Derived.JoinedTies
import Derived.KernelRfl
namespace Go.Proofs.YtlcpcgdecodjfaaGreatDoor
/- THE CELL 'sum', in the pinned program and in every row, IS THE sha256 OF THE DUMP (.gsa) THAT YtlcpcgdecodjfaaGreatDoorProg.lean LOADS. Nothing in Lean hashes anything: it is a label: what it is worth is what the hold of that sum in a sandbox is worth. -/
noncomputable def Tryz.pinned : Pinned := { name := "ytlcpcgdecodjfaagreatdoor", sum := "d36aa76804e09fbac416faa108b7d4ba3355ae12e605c80d4818c1ea2f8807e3", checked := Tryz.checked }
namespace Rows
def none {H : Type} : Left H := { results := [], args := [] }

/- WHAT THE LISTED PACKAGE-LEVEL VARIABLES READ AS WHEN THE CALL BEGINS. Each datum BY PROGRAM (the guide's laid-datum.mjs) off the statement by which the dump's own 'gosem.cut.vars' lays the variable. In a bare row this is a premise. The card (YtlcpcgdecodjfaaGreatDoorCards.lean) ties it to the program's text. -/
def laid_whitewash_mix_there {H : Type} : DataW H := .agg [.agg [.lit (.int .u64 30), .lit (.int .u64 13787848793156543929)], .agg [.lit (.int .u64 27), .lit (.int .u64 10723151780598845931)], .agg [.lit (.int .u64 31), .lit (.int .u64 1)]]
def laid_whitewash_region_objects {H : Type} : DataW H := .agg [.agg [.lit (.int .i64 0), .lit (.int .i64 0)], .agg [.lit (.int .i64 1), .lit (.int .i64 0)], .agg [.lit (.int .i64 1), .lit (.int .i64 2)], .agg [.lit (.int .i64 1), .lit (.int .i64 4)], .agg [.lit (.int .i64 2), .lit (.int .i64 4)], .agg [.lit (.int .i64 9), .lit (.int .i64 1)]]

/-- 'whitewashlaw13.OrderTells': WHATEVER THE INPUT: true; the input reads as it did. -/
def orderTellsSpec : ChangeSpec := { name := "orderTells", fn := fun _ => fun
  | [d1, d2, d3, d4, d5, d6, d7, d8, d9, d10] => { results := [.lit (.bool true)], args := [d1, d2, d3, d4, d5, d6, d7, d8, d9, d10] }
  | _ => none }
def orderTellsRow : OpenClaim := { program := "ytlcpcgdecodjfaagreatdoor", sum := "d36aa76804e09fbac416faa108b7d4ba3355ae12e605c80d4818c1ea2f8807e3", func := "whitewash/whitewashlaw13.OrderTells", spec := "orderTells", inPlace := ["math.Float64frombits", "slices.overlaps[whitewash/order.entry]"], unfollowed := true, recurses := true, named := ["whitewash/mix.there", "whitewash/region.objects"], apart := false, laid := [("whitewash/mix.there", laid_whitewash_mix_there), ("whitewash/region.objects", laid_whitewash_region_objects)] }
def OrderTellsSaid : Prop := orderTellsRow.holds Tryz.pinned (OpenSpec.ofChange orderTellsSpec)

/-- ITS FALSE NEIGHBOUR: 'it returns false'. Refute it at one input. -/
def orderTellsWrong : ChangeSpec := { name := "orderTells", fn := fun _ => fun
  | [d1, d2, d3, d4, d5, d6, d7, d8, d9, d10] => { results := [.lit (.bool false)], args := [d1, d2, d3, d4, d5, d6, d7, d8, d9, d10] }
  | _ => none }
def OrderTellsWrongFalsely : Prop := orderTellsRow.holds Tryz.pinned (OpenSpec.ofChange orderTellsWrong)

/-- 'whitewashlaw13.OrderRises': WHATEVER THE INPUT: true; the input reads as it did. -/
def orderRisesSpec : ChangeSpec := { name := "orderRises", fn := fun _ => fun
  | [d1, d2] => { results := [.lit (.bool true)], args := [d1, d2] }
  | _ => none }
def orderRisesRow : OpenClaim := { program := "ytlcpcgdecodjfaagreatdoor", sum := "d36aa76804e09fbac416faa108b7d4ba3355ae12e605c80d4818c1ea2f8807e3", func := "whitewash/whitewashlaw13.OrderRises", spec := "orderRises", inPlace := ["math.Float64frombits", "slices.overlaps[whitewash/order.entry]", "math.Float64bits"], unfollowed := true, recurses := true, named := ["whitewash/mix.there", "whitewash/region.objects"], apart := false, laid := [("whitewash/mix.there", laid_whitewash_mix_there), ("whitewash/region.objects", laid_whitewash_region_objects)] }
def OrderRisesSaid : Prop := orderRisesRow.holds Tryz.pinned (OpenSpec.ofChange orderRisesSpec)

/-- ITS FALSE NEIGHBOUR: 'it returns false'. Refute it at one input. -/
def orderRisesWrong : ChangeSpec := { name := "orderRises", fn := fun _ => fun
  | [d1, d2] => { results := [.lit (.bool false)], args := [d1, d2] }
  | _ => none }
def OrderRisesWrongFalsely : Prop := orderRisesRow.holds Tryz.pinned (OpenSpec.ofChange orderRisesWrong)

/- THE SECOND FORM. 'bulk': how many values and letters a reading holds, each counted each time it is reached (what is shared counts as often as it is met; a slice's spare places count too). A statement '..UptoSaid' is the law's where the arguments, and the package variables that the reading takes, are together of bulk at most 1048576: NARROWER than '..Said'. Prove '..Said' where nothing that the law and all that it calls make is longer than what came in: it says more and counts as full. Else prove '..UptoSaid'. A law counts once. -/
mutual
def uptoBulk {H : Type} : DataW H → Nat
  | .lit (.string bytes) => bytes.length + 1
  | .lit _ => 1
  | .nil => 1
  | .ptr d => uptoBulk d + 1
  | .slice elems spare => uptoBulkAll elems + uptoBulkAll spare + 1
  | .agg parts => uptoBulkAll parts + 1
  | .iface _ d => uptoBulk d + 1
  | .map entries => uptoBulkEntries entries + 1
  | .held _ => 1
def uptoBulkAll {H : Type} : List (DataW H) → Nat
  | [] => 0
  | d :: r => uptoBulk d + uptoBulkAll r
def uptoBulkEntries {H : Type} : List (Lit × DataW H) → Nat
  | [] => 0
  | x :: r => uptoBulkEntry x + uptoBulkEntries r
def uptoBulkEntry {H : Type} : Lit × DataW H → Nat
  | (.string bytes, d) => bytes.length + uptoBulk d + 1
  | (_, d) => uptoBulk d + 1
 end
def uptoSmall : (H : Type) → List (DataW H) → Bool := fun _ ds => decide (uptoBulkAll ds ≤ 1048576)
def OpenSpec.upto (s : _root_.Go.ChangeSpec) : _root_.Go.OpenSpec := { _root_.Go.OpenSpec.ofChange s with cond := some uptoSmall }

/-- 'whitewashlaw13.OrderTells', WHERE WHAT IT READS IS OF BULK AT MOST 1048576: true; the input reads as it did. -/
def orderTellsUptoRow : OpenClaim := { program := "ytlcpcgdecodjfaagreatdoor", sum := "d36aa76804e09fbac416faa108b7d4ba3355ae12e605c80d4818c1ea2f8807e3", func := "whitewash/whitewashlaw13.OrderTells", spec := "orderTells", inPlace := ["math.Float64frombits", "slices.overlaps[whitewash/order.entry]"], unfollowed := true, recurses := true, named := ["whitewash/mix.there", "whitewash/region.objects"], apart := false, laid := [("whitewash/mix.there", laid_whitewash_mix_there), ("whitewash/region.objects", laid_whitewash_region_objects)], narrowed := true }
def OrderTellsUptoSaid : Prop := orderTellsUptoRow.holds Tryz.pinned (OpenSpec.upto orderTellsSpec)

/-- 'whitewashlaw13.OrderRises', WHERE WHAT IT READS IS OF BULK AT MOST 1048576: true; the input reads as it did. -/
def orderRisesUptoRow : OpenClaim := { program := "ytlcpcgdecodjfaagreatdoor", sum := "d36aa76804e09fbac416faa108b7d4ba3355ae12e605c80d4818c1ea2f8807e3", func := "whitewash/whitewashlaw13.OrderRises", spec := "orderRises", inPlace := ["math.Float64frombits", "slices.overlaps[whitewash/order.entry]", "math.Float64bits"], unfollowed := true, recurses := true, named := ["whitewash/mix.there", "whitewash/region.objects"], apart := false, laid := [("whitewash/mix.there", laid_whitewash_mix_there), ("whitewash/region.objects", laid_whitewash_region_objects)], narrowed := true }
def OrderRisesUptoSaid : Prop := orderRisesUptoRow.holds Tryz.pinned (OpenSpec.upto orderRisesSpec)

end Rows
end Go.Proofs.YtlcpcgdecodjfaaGreatDoor
