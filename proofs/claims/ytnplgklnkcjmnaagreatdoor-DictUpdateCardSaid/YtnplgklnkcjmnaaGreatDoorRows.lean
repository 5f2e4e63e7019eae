/-
  NARROWER THAN 'FOR EVERY INPUT', by the rows' own cells (each row's printed sentence says how): DictTells: laid · DictUpdate: laid · DictStill: laid · SetsTells: laid · SetsBack: laid · SetsStill: laid · SetsWalk: laid.
  DERIVED. THE GIVEN ROWS OF THIS SEAT. 7 by the template 'for every input the law returns true; each argument reads behind the call as it read before'; 0 by the template 'total and deterministic' (their statements: YtnplgklnkcjmnaaGreatDoorTotals.lean).
  GIVEN WITH THE SEED: the statements are not yours to turn. If you find one false, say at which input.
  Laid BY PROGRAM, IN A SANDBOX (cutbox-rows.mjs): the forced cells as the released guide's own fill.sh prints them over the translation ac7c356ca9c17a56… (all of the seat's roots in one cut). By AI agents, Wed Nov 11 2026. No macro, syntax, notation, axiom, sorry.
-/
import Derived.Test.YtnplgklnkcjmnaaGreatDoorChecked
import GoSem.Claim
import GoSem.ClaimJoined
import GoSem.ClaimMapViews
import Derived.JoinedTies
import Derived.KernelRfl
namespace Go.Proofs.YtnplgklnkcjmnaaGreatDoor
/- THE CELL 'sum', in the pinned program and in every row, IS THE sha256 OF THE DUMP (.gsa) THAT YtnplgklnkcjmnaaGreatDoorProg.lean LOADS. Nothing in Lean hashes anything: it is a label: what it is worth is what the hold of that sum in a sandbox is worth. -/
noncomputable def Tryz.pinned : Pinned := { name := "ytnplgklnkcjmnaagreatdoor", sum := "ac7c356ca9c17a561eb8777ed6479d1e1371c65cad95fb26486c467957275f40", checked := Tryz.checked }
namespace Rows
def none {H : Type} : Left H := { results := [], args := [] }

/- WHAT THE LISTED PACKAGE-LEVEL VARIABLES READ AS WHEN THE CALL BEGINS. Each datum BY PROGRAM (the guide's laid-datum.mjs) off the statement by which the dump's own 'gosem.cut.vars' lays the variable. In a bare row this is a premise. The card (YtnplgklnkcjmnaaGreatDoorCards.lean) ties it to the program's text. -/
def laid_whitewash_mix_there {H : Type} : DataW H := .agg [.agg [.lit (.int .u64 30), .lit (.int .u64 13787848793156543929)], .agg [.lit (.int .u64 27), .lit (.int .u64 10723151780598845931)], .agg [.lit (.int .u64 31), .lit (.int .u64 1)]]
def laid_whitewash_region_objects {H : Type} : DataW H := .agg [.agg [.lit (.int .i64 0), .lit (.int .i64 0)], .agg [.lit (.int .i64 1), .lit (.int .i64 0)], .agg [.lit (.int .i64 1), .lit (.int .i64 2)], .agg [.lit (.int .i64 1), .lit (.int .i64 4)], .agg [.lit (.int .i64 2), .lit (.int .i64 4)], .agg [.lit (.int .i64 9), .lit (.int .i64 1)]]

/-- 'whitewashlaw12.DictTells': WHATEVER THE INPUT: true; the input reads as it did. -/
def dictTellsSpec : ChangeSpec := { name := "dictTells", fn := fun _ => fun
  | [d1, d2, d3, d4, d5, d6, d7, d8, d9, d10] => { results := [.lit (.bool true)], args := [d1, d2, d3, d4, d5, d6, d7, d8, d9, d10] }
  | _ => none }
def dictTellsRow : OpenClaim := { program := "ytnplgklnkcjmnaagreatdoor", sum := "ac7c356ca9c17a561eb8777ed6479d1e1371c65cad95fb26486c467957275f40", func := "whitewash/whitewashlaw12.DictTells", spec := "dictTells", unfollowed := true, recurses := true, named := ["whitewash/region.objects", "whitewash/mix.there"], apart := false, laid := [("whitewash/mix.there", laid_whitewash_mix_there), ("whitewash/region.objects", laid_whitewash_region_objects)] }
def DictTellsSaid : Prop := dictTellsRow.holds Tryz.pinned (OpenSpec.ofChange dictTellsSpec)

/-- ITS FALSE NEIGHBOUR: 'it returns false'. Refute it at one input. -/
def dictTellsWrong : ChangeSpec := { name := "dictTells", fn := fun _ => fun
  | [d1, d2, d3, d4, d5, d6, d7, d8, d9, d10] => { results := [.lit (.bool false)], args := [d1, d2, d3, d4, d5, d6, d7, d8, d9, d10] }
  | _ => none }
def DictTellsWrongFalsely : Prop := dictTellsRow.holds Tryz.pinned (OpenSpec.ofChange dictTellsWrong)

/-- 'whitewashlaw12.DictUpdate': WHATEVER THE INPUT: true; the input reads as it did. -/
def dictUpdateSpec : ChangeSpec := { name := "dictUpdate", fn := fun _ => fun
  | [d1, d2, d3] => { results := [.lit (.bool true)], args := [d1, d2, d3] }
  | _ => none }
def dictUpdateRow : OpenClaim := { program := "ytnplgklnkcjmnaagreatdoor", sum := "ac7c356ca9c17a561eb8777ed6479d1e1371c65cad95fb26486c467957275f40", func := "whitewash/whitewashlaw12.DictUpdate", spec := "dictUpdate", unfollowed := true, recurses := true, named := ["whitewash/region.objects", "whitewash/mix.there"], apart := false, laid := [("whitewash/mix.there", laid_whitewash_mix_there), ("whitewash/region.objects", laid_whitewash_region_objects)] }
def DictUpdateSaid : Prop := dictUpdateRow.holds Tryz.pinned (OpenSpec.ofChange dictUpdateSpec)

/-- ITS FALSE NEIGHBOUR: 'it returns false'. Refute it at one input. -/
def dictUpdateWrong : ChangeSpec := { name := "dictUpdate", fn := fun _ => fun
  | [d1, d2, d3] => { results := [.lit (.bool false)], args := [d1, d2, d3] }
  | _ => none }
def DictUpdateWrongFalsely : Prop := dictUpdateRow.holds Tryz.pinned (OpenSpec.ofChange dictUpdateWrong)

/-- 'whitewashlaw12.DictStill': WHATEVER THE INPUT: true; the input reads as it did. -/
def dictStillSpec : ChangeSpec := { name := "dictStill", fn := fun _ => fun
  | [d1, d2, d3, d4] => { results := [.lit (.bool true)], args := [d1, d2, d3, d4] }
  | _ => none }
def dictStillRow : OpenClaim := { program := "ytnplgklnkcjmnaagreatdoor", sum := "ac7c356ca9c17a561eb8777ed6479d1e1371c65cad95fb26486c467957275f40", func := "whitewash/whitewashlaw12.DictStill", spec := "dictStill", unfollowed := true, recurses := true, named := ["whitewash/region.objects", "whitewash/mix.there"], apart := false, laid := [("whitewash/mix.there", laid_whitewash_mix_there), ("whitewash/region.objects", laid_whitewash_region_objects)] }
def DictStillSaid : Prop := dictStillRow.holds Tryz.pinned (OpenSpec.ofChange dictStillSpec)

/-- ITS FALSE NEIGHBOUR: 'it returns false'. Refute it at one input. -/
def dictStillWrong : ChangeSpec := { name := "dictStill", fn := fun _ => fun
  | [d1, d2, d3, d4] => { results := [.lit (.bool false)], args := [d1, d2, d3, d4] }
  | _ => none }
def DictStillWrongFalsely : Prop := dictStillRow.holds Tryz.pinned (OpenSpec.ofChange dictStillWrong)

/-- 'whitewashlaw11.SetsTells': WHATEVER THE INPUT: true; the input reads as it did. -/
def setsTellsSpec : ChangeSpec := { name := "setsTells", fn := fun _ => fun
  | [d1, d2, d3, d4, d5, d6, d7, d8, d9, d10] => { results := [.lit (.bool true)], args := [d1, d2, d3, d4, d5, d6, d7, d8, d9, d10] }
  | _ => none }
def setsTellsRow : OpenClaim := { program := "ytnplgklnkcjmnaagreatdoor", sum := "ac7c356ca9c17a561eb8777ed6479d1e1371c65cad95fb26486c467957275f40", func := "whitewash/whitewashlaw11.SetsTells", spec := "setsTells", unfollowed := true, recurses := true, named := ["whitewash/region.objects", "whitewash/mix.there"], apart := false, laid := [("whitewash/mix.there", laid_whitewash_mix_there), ("whitewash/region.objects", laid_whitewash_region_objects)] }
def SetsTellsSaid : Prop := setsTellsRow.holds Tryz.pinned (OpenSpec.ofChange setsTellsSpec)

/-- ITS FALSE NEIGHBOUR: 'it returns false'. Refute it at one input. -/
def setsTellsWrong : ChangeSpec := { name := "setsTells", fn := fun _ => fun
  | [d1, d2, d3, d4, d5, d6, d7, d8, d9, d10] => { results := [.lit (.bool false)], args := [d1, d2, d3, d4, d5, d6, d7, d8, d9, d10] }
  | _ => none }
def SetsTellsWrongFalsely : Prop := setsTellsRow.holds Tryz.pinned (OpenSpec.ofChange setsTellsWrong)

/-- 'whitewashlaw11.SetsBack': WHATEVER THE INPUT: true; the input reads as it did. -/
def setsBackSpec : ChangeSpec := { name := "setsBack", fn := fun _ => fun
  | [d1, d2, d3] => { results := [.lit (.bool true)], args := [d1, d2, d3] }
  | _ => none }
def setsBackRow : OpenClaim := { program := "ytnplgklnkcjmnaagreatdoor", sum := "ac7c356ca9c17a561eb8777ed6479d1e1371c65cad95fb26486c467957275f40", func := "whitewash/whitewashlaw11.SetsBack", spec := "setsBack", unfollowed := true, recurses := true, named := ["whitewash/region.objects", "whitewash/mix.there"], apart := false, laid := [("whitewash/mix.there", laid_whitewash_mix_there), ("whitewash/region.objects", laid_whitewash_region_objects)] }
def SetsBackSaid : Prop := setsBackRow.holds Tryz.pinned (OpenSpec.ofChange setsBackSpec)

/-- ITS FALSE NEIGHBOUR: 'it returns false'. Refute it at one input. -/
def setsBackWrong : ChangeSpec := { name := "setsBack", fn := fun _ => fun
  | [d1, d2, d3] => { results := [.lit (.bool false)], args := [d1, d2, d3] }
  | _ => none }
def SetsBackWrongFalsely : Prop := setsBackRow.holds Tryz.pinned (OpenSpec.ofChange setsBackWrong)

/-- 'whitewashlaw11.SetsStill': WHATEVER THE INPUT: true; the input reads as it did. -/
def setsStillSpec : ChangeSpec := { name := "setsStill", fn := fun _ => fun
  | [d1, d2, d3, d4] => { results := [.lit (.bool true)], args := [d1, d2, d3, d4] }
  | _ => none }
def setsStillRow : OpenClaim := { program := "ytnplgklnkcjmnaagreatdoor", sum := "ac7c356ca9c17a561eb8777ed6479d1e1371c65cad95fb26486c467957275f40", func := "whitewash/whitewashlaw11.SetsStill", spec := "setsStill", unfollowed := true, recurses := true, named := ["whitewash/region.objects", "whitewash/mix.there"], apart := false, laid := [("whitewash/mix.there", laid_whitewash_mix_there), ("whitewash/region.objects", laid_whitewash_region_objects)] }
def SetsStillSaid : Prop := setsStillRow.holds Tryz.pinned (OpenSpec.ofChange setsStillSpec)

/-- ITS FALSE NEIGHBOUR: 'it returns false'. Refute it at one input. -/
def setsStillWrong : ChangeSpec := { name := "setsStill", fn := fun _ => fun
  | [d1, d2, d3, d4] => { results := [.lit (.bool false)], args := [d1, d2, d3, d4] }
  | _ => none }
def SetsStillWrongFalsely : Prop := setsStillRow.holds Tryz.pinned (OpenSpec.ofChange setsStillWrong)

/-- 'whitewashlaw11.SetsWalk': WHATEVER THE INPUT: true; the input reads as it did. -/
def setsWalkSpec : ChangeSpec := { name := "setsWalk", fn := fun _ => fun
  | [d1, d2] => { results := [.lit (.bool true)], args := [d1, d2] }
  | _ => none }
def setsWalkRow : OpenClaim := { program := "ytnplgklnkcjmnaagreatdoor", sum := "ac7c356ca9c17a561eb8777ed6479d1e1371c65cad95fb26486c467957275f40", func := "whitewash/whitewashlaw11.SetsWalk", spec := "setsWalk", unfollowed := true, recurses := true, named := ["whitewash/region.objects", "whitewash/mix.there"], apart := false, laid := [("whitewash/mix.there", laid_whitewash_mix_there), ("whitewash/region.objects", laid_whitewash_region_objects)] }
def SetsWalkSaid : Prop := setsWalkRow.holds Tryz.pinned (OpenSpec.ofChange setsWalkSpec)

/-- ITS FALSE NEIGHBOUR: 'it returns false'. Refute it at one input. -/
def setsWalkWrong : ChangeSpec := { name := "setsWalk", fn := fun _ => fun
  | [d1, d2] => { results := [.lit (.bool false)], args := [d1, d2] }
  | _ => none }
def SetsWalkWrongFalsely : Prop := setsWalkRow.holds Tryz.pinned (OpenSpec.ofChange setsWalkWrong)

/- THE SECOND FORM. 'bulk': how many values and letters a reading holds, each counted each time it is reached (what is shared counts as often as it is met; a slice's spare places count too). A statement '..UptoSaid' is the law's where the arguments, and the package variables that the reading takes, are together of bulk at most 1048576: NARROWER than '..Said'. Prove '..Said' where nothing that the law and all that it calls make is longer than what came in: it says more and counts as full. Else prove '..UptoSaid'. A law counts once. -/
mutual
def uptoBulk {H : Type} : DataW H → Nat
  | .lit (.string bytes) => bytes.length + 1
  | .lit _ => 1
  | .nil => 1
  | .ptr d => uptoBulk d + 1
  | .slice elems spare => uptoBulkAll elems + uptoBulkAll spare + 1
  | .agg parts => uptoBulkAll parts + 1
  | .iface _ d => uptoBulk d + 1
  | .map entries => uptoBulkEntries entries + 1
  | .held _ => 1
def uptoBulkAll {H : Type} : List (DataW H) → Nat
  | [] => 0
  | d :: r => uptoBulk d + uptoBulkAll r
def uptoBulkEntries {H : Type} : List (Lit × DataW H) → Nat
  | [] => 0
  | x :: r => uptoBulkEntry x + uptoBulkEntries r
def uptoBulkEntry {H : Type} : Lit × DataW H → Nat
  | (.string bytes, d) => bytes.length + uptoBulk d + 1
  | (_, d) => uptoBulk d + 1
 end
def uptoSmall : (H : Type) → List (DataW H) → Bool := fun _ ds => decide (uptoBulkAll ds ≤ 1048576)
def OpenSpec.upto (s : _root_.Go.ChangeSpec) : _root_.Go.OpenSpec := { _root_.Go.OpenSpec.ofChange s with cond := some uptoSmall }

/-- 'whitewashlaw12.DictTells', WHERE WHAT IT READS IS OF BULK AT MOST 1048576: true; the input reads as it did. -/
def dictTellsUptoRow : OpenClaim := { program := "ytnplgklnkcjmnaagreatdoor", sum := "ac7c356ca9c17a561eb8777ed6479d1e1371c65cad95fb26486c467957275f40", func := "whitewash/whitewashlaw12.DictTells", spec := "dictTells", unfollowed := true, recurses := true, named := ["whitewash/region.objects", "whitewash/mix.there"], apart := false, laid := [("whitewash/mix.there", laid_whitewash_mix_there), ("whitewash/region.objects", laid_whitewash_region_objects)], narrowed := true }
def DictTellsUptoSaid : Prop := dictTellsUptoRow.holds Tryz.pinned (OpenSpec.upto dictTellsSpec)

/-- 'whitewashlaw12.DictUpdate', WHERE WHAT IT READS IS OF BULK AT MOST 1048576: true; the input reads as it did. -/
def dictUpdateUptoRow : OpenClaim := { program := "ytnplgklnkcjmnaagreatdoor", sum := "ac7c356ca9c17a561eb8777ed6479d1e1371c65cad95fb26486c467957275f40", func := "whitewash/whitewashlaw12.DictUpdate", spec := "dictUpdate", unfollowed := true, recurses := true, named := ["whitewash/region.objects", "whitewash/mix.there"], apart := false, laid := [("whitewash/mix.there", laid_whitewash_mix_there), ("whitewash/region.objects", laid_whitewash_region_objects)], narrowed := true }
def DictUpdateUptoSaid : Prop := dictUpdateUptoRow.holds Tryz.pinned (OpenSpec.upto dictUpdateSpec)

/-- 'whitewashlaw12.DictStill', WHERE WHAT IT READS IS OF BULK AT MOST 1048576: true; the input reads as it did. -/
def dictStillUptoRow : OpenClaim := { program := "ytnplgklnkcjmnaagreatdoor", sum := "ac7c356ca9c17a561eb8777ed6479d1e1371c65cad95fb26486c467957275f40", func := "whitewash/whitewashlaw12.DictStill", spec := "dictStill", unfollowed := true, recurses := true, named := ["whitewash/region.objects", "whitewash/mix.there"], apart := false, laid := [("whitewash/mix.there", laid_whitewash_mix_there), ("whitewash/region.objects", laid_whitewash_region_objects)], narrowed := true }
def DictStillUptoSaid : Prop := dictStillUptoRow.holds Tryz.pinned (OpenSpec.upto dictStillSpec)

/-- 'whitewashlaw11.SetsTells', WHERE WHAT IT READS IS OF BULK AT MOST 1048576: true; the input reads as it did. -/
def setsTellsUptoRow : OpenClaim := { program := "ytnplgklnkcjmnaagreatdoor", sum := "ac7c356ca9c17a561eb8777ed6479d1e1371c65cad95fb26486c467957275f40", func := "whitewash/whitewashlaw11.SetsTells", spec := "setsTells", unfollowed := true, recurses := true, named := ["whitewash/region.objects", "whitewash/mix.there"], apart := false, laid := [("whitewash/mix.there", laid_whitewash_mix_there), ("whitewash/region.objects", laid_whitewash_region_objects)], narrowed := true }
def SetsTellsUptoSaid : Prop := setsTellsUptoRow.holds Tryz.pinned (OpenSpec.upto setsTellsSpec)

/-- 'whitewashlaw11.SetsBack', WHERE WHAT IT READS IS OF BULK AT MOST 1048576: true; the input reads as it did. -/
def setsBackUptoRow : OpenClaim := { program := "ytnplgklnkcjmnaagreatdoor", sum := "ac7c356ca9c17a561eb8777ed6479d1e1371c65cad95fb26486c467957275f40", func := "whitewash/whitewashlaw11.SetsBack", spec := "setsBack", unfollowed := true, recurses := true, named := ["whitewash/region.objects", "whitewash/mix.there"], apart := false, laid := [("whitewash/mix.there", laid_whitewash_mix_there), ("whitewash/region.objects", laid_whitewash_region_objects)], narrowed := true }
def SetsBackUptoSaid : Prop := setsBackUptoRow.holds Tryz.pinned (OpenSpec.upto setsBackSpec)

/-- 'whitewashlaw11.SetsStill', WHERE WHAT IT READS IS OF BULK AT MOST 1048576: true; the input reads as it did. -/
def setsStillUptoRow : OpenClaim := { program := "ytnplgklnkcjmnaagreatdoor", sum := "ac7c356ca9c17a561eb8777ed6479d1e1371c65cad95fb26486c467957275f40", func := "whitewash/whitewashlaw11.SetsStill", spec := "setsStill", unfollowed := true, recurses := true, named := ["whitewash/region.objects", "whitewash/mix.there"], apart := false, laid := [("whitewash/mix.there", laid_whitewash_mix_there), ("whitewash/region.objects", laid_whitewash_region_objects)], narrowed := true }
def SetsStillUptoSaid : Prop := setsStillUptoRow.holds Tryz.pinned (OpenSpec.upto setsStillSpec)

/-- 'whitewashlaw11.SetsWalk', WHERE WHAT IT READS IS OF BULK AT MOST 1048576: true; the input reads as it did. -/
def setsWalkUptoRow : OpenClaim := { program := "ytnplgklnkcjmnaagreatdoor", sum := "ac7c356ca9c17a561eb8777ed6479d1e1371c65cad95fb26486c467957275f40", func := "whitewash/whitewashlaw11.SetsWalk", spec := "setsWalk", unfollowed := true, recurses := true, named := ["whitewash/region.objects", "whitewash/mix.there"], apart := false, laid := [("whitewash/mix.there", laid_whitewash_mix_there), ("whitewash/region.objects", laid_whitewash_region_objects)], narrowed := true }
def SetsWalkUptoSaid : Prop := setsWalkUptoRow.holds Tryz.pinned (OpenSpec.upto setsWalkSpec)

end Rows
end Go.Proofs.YtnplgklnkcjmnaaGreatDoor
