/-
  NARROWER THAN 'FOR EVERY INPUT', by the rows' own cells (each row's printed sentence says how): DictOne: laid · DictLast: laid · SetsOne: laid.
  DERIVED. THE GIVEN ROWS OF THIS SEAT. 3 by the template 'for every input the law returns true; each argument reads behind the call as it read before'; 0 by the template 'total and deterministic' (their statements: YtnplgklnkcjmnaaDoorTotals.lean).
  GIVEN WITH THE SEED: the statements are not yours to turn. If you find one false, say at which input.
  Laid BY PROGRAM, IN A SANDBOX (cutbox-rows.mjs): the forced cells as the released guide's own fill.sh prints them over the translation 53caef0175c519ce… (all of the seat's roots in one cut). By AI agents, Wed Nov 11 2026. No macro, syntax, notation, axiom, sorry.
-/
import Derived.Test.YtnplgklnkcjmnaaDoorChecked
import GoSem.Claim
import GoSem.ClaimJoined
import GoSem.ClaimMapViews
import Derived.JoinedTies
import Derived.KernelRfl
namespace Go.Proofs.YtnplgklnkcjmnaaDoor
/- THE CELL 'sum', in the pinned program and in every row, IS THE sha256 OF THE DUMP (.gsa) THAT YtnplgklnkcjmnaaDoorProg.lean LOADS. Nothing in Lean hashes anything: it is a label: what it is worth is what the hold of that sum in a sandbox is worth. -/
noncomputable def Tryd.pinned : Pinned := { name := "ytnplgklnkcjmnaadoor", sum := "53caef0175c519ce70184f04c7096a202cc92637c7a9b0089ed6b8ab69dd7224", checked := Tryd.checked }
namespace Rows
def none {H : Type} : Left H := { results := [], args := [] }

/- WHAT THE LISTED PACKAGE-LEVEL VARIABLES READ AS WHEN THE CALL BEGINS. Each datum BY PROGRAM (the guide's laid-datum.mjs) off the statement by which the dump's own 'gosem.cut.vars' lays the variable. In a bare row this is a premise. The card (YtnplgklnkcjmnaaDoorCards.lean) ties it to the program's text. -/
def laid_whitewash_mix_there {H : Type} : DataW H := .agg [.agg [.lit (.int .u64 30), .lit (.int .u64 13787848793156543929)], .agg [.lit (.int .u64 27), .lit (.int .u64 10723151780598845931)], .agg [.lit (.int .u64 31), .lit (.int .u64 1)]]
def laid_whitewash_region_objects {H : Type} : DataW H := .agg [.agg [.lit (.int .i64 0), .lit (.int .i64 0)], .agg [.lit (.int .i64 1), .lit (.int .i64 0)], .agg [.lit (.int .i64 1), .lit (.int .i64 2)], .agg [.lit (.int .i64 1), .lit (.int .i64 4)], .agg [.lit (.int .i64 2), .lit (.int .i64 4)], .agg [.lit (.int .i64 9), .lit (.int .i64 1)]]

/-- 'whitewashlaw12.DictOne': WHATEVER THE INPUT: true; the input reads as it did. -/
def dictOneSpec : ChangeSpec := { name := "dictOne", fn := fun _ => fun
  | [d1, d2, d3] => { results := [.lit (.bool true)], args := [d1, d2, d3] }
  | _ => none }
def dictOneRow : OpenClaim := { program := "ytnplgklnkcjmnaadoor", sum := "53caef0175c519ce70184f04c7096a202cc92637c7a9b0089ed6b8ab69dd7224", func := "whitewash/whitewashlaw12.DictOne", spec := "dictOne", unfollowed := true, recurses := true, named := ["whitewash/region.objects", "whitewash/mix.there"], apart := false, laid := [("whitewash/mix.there", laid_whitewash_mix_there), ("whitewash/region.objects", laid_whitewash_region_objects)] }
def DictOneSaid : Prop := dictOneRow.holds Tryd.pinned (OpenSpec.ofChange dictOneSpec)

/-- ITS FALSE NEIGHBOUR: 'it returns false'. Refute it at one input. -/
def dictOneWrong : ChangeSpec := { name := "dictOne", fn := fun _ => fun
  | [d1, d2, d3] => { results := [.lit (.bool false)], args := [d1, d2, d3] }
  | _ => none }
def DictOneWrongFalsely : Prop := dictOneRow.holds Tryd.pinned (OpenSpec.ofChange dictOneWrong)

/-- 'whitewashlaw12.DictLast': WHATEVER THE INPUT: true; the input reads as it did. -/
def dictLastSpec : ChangeSpec := { name := "dictLast", fn := fun _ => fun
  | [d1, d2] => { results := [.lit (.bool true)], args := [d1, d2] }
  | _ => none }
def dictLastRow : OpenClaim := { program := "ytnplgklnkcjmnaadoor", sum := "53caef0175c519ce70184f04c7096a202cc92637c7a9b0089ed6b8ab69dd7224", func := "whitewash/whitewashlaw12.DictLast", spec := "dictLast", unfollowed := true, recurses := true, named := ["whitewash/region.objects", "whitewash/mix.there"], apart := false, laid := [("whitewash/mix.there", laid_whitewash_mix_there), ("whitewash/region.objects", laid_whitewash_region_objects)] }
def DictLastSaid : Prop := dictLastRow.holds Tryd.pinned (OpenSpec.ofChange dictLastSpec)

/-- ITS FALSE NEIGHBOUR: 'it returns false'. Refute it at one input. -/
def dictLastWrong : ChangeSpec := { name := "dictLast", fn := fun _ => fun
  | [d1, d2] => { results := [.lit (.bool false)], args := [d1, d2] }
  | _ => none }
def DictLastWrongFalsely : Prop := dictLastRow.holds Tryd.pinned (OpenSpec.ofChange dictLastWrong)

/-- 'whitewashlaw11.SetsOne': WHATEVER THE INPUT: true; the input reads as it did. -/
def setsOneSpec : ChangeSpec := { name := "setsOne", fn := fun _ => fun
  | [d1, d2, d3] => { results := [.lit (.bool true)], args := [d1, d2, d3] }
  | _ => none }
def setsOneRow : OpenClaim := { program := "ytnplgklnkcjmnaadoor", sum := "53caef0175c519ce70184f04c7096a202cc92637c7a9b0089ed6b8ab69dd7224", func := "whitewash/whitewashlaw11.SetsOne", spec := "setsOne", unfollowed := true, recurses := true, named := ["whitewash/region.objects", "whitewash/mix.there"], apart := false, laid := [("whitewash/mix.there", laid_whitewash_mix_there), ("whitewash/region.objects", laid_whitewash_region_objects)] }
def SetsOneSaid : Prop := setsOneRow.holds Tryd.pinned (OpenSpec.ofChange setsOneSpec)

/-- ITS FALSE NEIGHBOUR: 'it returns false'. Refute it at one input. -/
def setsOneWrong : ChangeSpec := { name := "setsOne", fn := fun _ => fun
  | [d1, d2, d3] => { results := [.lit (.bool false)], args := [d1, d2, d3] }
  | _ => none }
def SetsOneWrongFalsely : Prop := setsOneRow.holds Tryd.pinned (OpenSpec.ofChange setsOneWrong)

/- THE SECOND FORM. 'bulk': how many values and letters a reading holds, each counted each time it is reached (what is shared counts as often as it is met; a slice's spare places count too). A statement '..UptoSaid' is the law's where the arguments, and the package variables that the reading takes, are together of bulk at most 1048576: NARROWER than '..Said'. Prove '..Said' where nothing that the law and all that it calls make is longer than what came in: it says more and counts as full. Else prove '..UptoSaid'. A law counts once. -/
mutual
def uptoBulk {H : Type} : DataW H → Nat
  | .lit (.string bytes) => bytes.length + 1
  | .lit _ => 1
  | .nil => 1
  | .ptr d => uptoBulk d + 1
  | .slice elems spare => uptoBulkAll elems + uptoBulkAll spare + 1
  | .agg parts => uptoBulkAll parts + 1
  | .iface _ d => uptoBulk d + 1
  | .map entries => uptoBulkEntries entries + 1
  | .held _ => 1
def uptoBulkAll {H : Type} : List (DataW H) → Nat
  | [] => 0
  | d :: r => uptoBulk d + uptoBulkAll r
def uptoBulkEntries {H : Type} : List (Lit × DataW H) → Nat
  | [] => 0
  | x :: r => uptoBulkEntry x + uptoBulkEntries r
def uptoBulkEntry {H : Type} : Lit × DataW H → Nat
  | (.string bytes, d) => bytes.length + uptoBulk d + 1
  | (_, d) => uptoBulk d + 1
 end
def uptoSmall : (H : Type) → List (DataW H) → Bool := fun _ ds => decide (uptoBulkAll ds ≤ 1048576)
def OpenSpec.upto (s : _root_.Go.ChangeSpec) : _root_.Go.OpenSpec := { _root_.Go.OpenSpec.ofChange s with cond := some uptoSmall }

/-- 'whitewashlaw12.DictOne', WHERE WHAT IT READS IS OF BULK AT MOST 1048576: true; the input reads as it did. -/
def dictOneUptoRow : OpenClaim := { program := "ytnplgklnkcjmnaadoor", sum := "53caef0175c519ce70184f04c7096a202cc92637c7a9b0089ed6b8ab69dd7224", func := "whitewash/whitewashlaw12.DictOne", spec := "dictOne", unfollowed := true, recurses := true, named := ["whitewash/region.objects", "whitewash/mix.there"], apart := false, laid := [("whitewash/mix.there", laid_whitewash_mix_there), ("whitewash/region.objects", laid_whitewash_region_objects)], narrowed := true }
def DictOneUptoSaid : Prop := dictOneUptoRow.holds Tryd.pinned (OpenSpec.upto dictOneSpec)

/-- 'whitewashlaw12.DictLast', WHERE WHAT IT READS IS OF BULK AT MOST 1048576: true; the input reads as it did. -/
def dictLastUptoRow : OpenClaim := { program := "ytnplgklnkcjmnaadoor", sum := "53caef0175c519ce70184f04c7096a202cc92637c7a9b0089ed6b8ab69dd7224", func := "whitewash/whitewashlaw12.DictLast", spec := "dictLast", unfollowed := true, recurses := true, named := ["whitewash/region.objects", "whitewash/mix.there"], apart := false, laid := [("whitewash/mix.there", laid_whitewash_mix_there), ("whitewash/region.objects", laid_whitewash_region_objects)], narrowed := true }
def DictLastUptoSaid : Prop := dictLastUptoRow.holds Tryd.pinned (OpenSpec.upto dictLastSpec)

/-- 'whitewashlaw11.SetsOne', WHERE WHAT IT READS IS OF BULK AT MOST 1048576: true; the input reads as it did. -/
def setsOneUptoRow : OpenClaim := { program := "ytnplgklnkcjmnaadoor", sum := "53caef0175c519ce70184f04c7096a202cc92637c7a9b0089ed6b8ab69dd7224", func := "whitewash/whitewashlaw11.SetsOne", spec := "setsOne", unfollowed := true, recurses := true, named := ["whitewash/region.objects", "whitewash/mix.there"], apart := false, laid := [("whitewash/mix.there", laid_whitewash_mix_there), ("whitewash/region.objects", laid_whitewash_region_objects)], narrowed := true }
def SetsOneUptoSaid : Prop := setsOneUptoRow.holds Tryd.pinned (OpenSpec.upto setsOneSpec)

end Rows
end Go.Proofs.YtnplgklnkcjmnaaDoor
