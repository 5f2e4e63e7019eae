/-
  NARROWER THAN 'FOR EVERY INPUT', by the rows' own cells (each row's printed sentence says how): ProbeTells: laid · ProbeBuilds: laid · ProbeOne: laid · ProbeBack: laid · ProbeLists: laid.
  DERIVED. THE GIVEN ROWS OF THIS SEAT. 5 by the template 'for every input the law returns true; each argument reads behind the call as it read before'; 0 by the template 'total and deterministic' (their statements: YtdbmbbfgcaimgaaDoorTotals.lean).
  GIVEN WITH THE SEED: the statements are not yours to turn. If you find one false, say at which input.
  Laid BY PROGRAM, IN A SANDBOX (cutbox-rows.mjs): the forced cells as the released guide's own fill.sh prints them over the translation 76729eaddaf7d68d… (all of the seat's roots in one cut). By AI agents, Wed Nov 11 2026. No macro, syntax, notation, axiom, sorry.
-/
import Derived.Test.YtdbmbbfgcaimgaaDoorChecked
import GoSem.Claim
import GoSem.ClaimJoined
import GoSem.ClaimMapViews
import Derived.JoinedTies
import Derived.KernelRfl
namespace Go.Proofs.YtdbmbbfgcaimgaaDoor
/- THE CELL 'sum', in the pinned program and in every row, IS THE sha256 OF THE DUMP (.gsa) THAT YtdbmbbfgcaimgaaDoorProg.lean LOADS. Nothing in Lean hashes anything: it is a label: what it is worth is what the hold of that sum in a sandbox is worth. -/
noncomputable def Tryd.pinned : Pinned := { name := "ytdbmbbfgcaimgaadoor", sum := "76729eaddaf7d68da658161e3e9127e93cab9eaca99b37c2467d3886cfa4a4da", checked := Tryd.checked }
namespace Rows
def none {H : Type} : Left H := { results := [], args := [] }

/- WHAT THE LISTED PACKAGE-LEVEL VARIABLES READ AS WHEN THE CALL BEGINS. Each datum BY PROGRAM (the guide's laid-datum.mjs) off the statement by which the dump's own 'gosem.cut.vars' lays the variable. In a bare row this is a premise. The card (YtdbmbbfgcaimgaaDoorCards.lean) ties it to the program's text. -/
def laid_whitewash_mix_there {H : Type} : DataW H := .agg [.agg [.lit (.int .u64 30), .lit (.int .u64 13787848793156543929)], .agg [.lit (.int .u64 27), .lit (.int .u64 10723151780598845931)], .agg [.lit (.int .u64 31), .lit (.int .u64 1)]]

/-- 'whitewashlaw07.ProbeTells': WHATEVER THE INPUT: true; the input reads as it did. -/
def probeTellsSpec : ChangeSpec := { name := "probeTells", fn := fun _ => fun
  | [d1, d2, d3, d4, d5, d6, d7, d8] => { results := [.lit (.bool true)], args := [d1, d2, d3, d4, d5, d6, d7, d8] }
  | _ => none }
def probeTellsRow : OpenClaim := { program := "ytdbmbbfgcaimgaadoor", sum := "76729eaddaf7d68da658161e3e9127e93cab9eaca99b37c2467d3886cfa4a4da", func := "whitewash/whitewashlaw07.ProbeTells", spec := "probeTells", unfollowed := true, recurses := true, named := ["whitewash/mix.there"], apart := false, laid := [("whitewash/mix.there", laid_whitewash_mix_there)] }
def ProbeTellsSaid : Prop := probeTellsRow.holds Tryd.pinned (OpenSpec.ofChange probeTellsSpec)

/-- ITS FALSE NEIGHBOUR: 'it returns false'. Refute it at one input. -/
def probeTellsWrong : ChangeSpec := { name := "probeTells", fn := fun _ => fun
  | [d1, d2, d3, d4, d5, d6, d7, d8] => { results := [.lit (.bool false)], args := [d1, d2, d3, d4, d5, d6, d7, d8] }
  | _ => none }
def ProbeTellsWrongFalsely : Prop := probeTellsRow.holds Tryd.pinned (OpenSpec.ofChange probeTellsWrong)

/-- 'whitewashlaw07.ProbeBuilds': WHATEVER THE INPUT: true; the input reads as it did. -/
def probeBuildsSpec : ChangeSpec := { name := "probeBuilds", fn := fun _ => fun
  | [d1, d2, d3, d4] => { results := [.lit (.bool true)], args := [d1, d2, d3, d4] }
  | _ => none }
def probeBuildsRow : OpenClaim := { program := "ytdbmbbfgcaimgaadoor", sum := "76729eaddaf7d68da658161e3e9127e93cab9eaca99b37c2467d3886cfa4a4da", func := "whitewash/whitewashlaw07.ProbeBuilds", spec := "probeBuilds", unfollowed := true, recurses := true, named := ["whitewash/mix.there"], apart := false, laid := [("whitewash/mix.there", laid_whitewash_mix_there)] }
def ProbeBuildsSaid : Prop := probeBuildsRow.holds Tryd.pinned (OpenSpec.ofChange probeBuildsSpec)

/-- ITS FALSE NEIGHBOUR: 'it returns false'. Refute it at one input. -/
def probeBuildsWrong : ChangeSpec := { name := "probeBuilds", fn := fun _ => fun
  | [d1, d2, d3, d4] => { results := [.lit (.bool false)], args := [d1, d2, d3, d4] }
  | _ => none }
def ProbeBuildsWrongFalsely : Prop := probeBuildsRow.holds Tryd.pinned (OpenSpec.ofChange probeBuildsWrong)

/-- 'whitewashlaw07.ProbeOne': WHATEVER THE INPUT: true; the input reads as it did. -/
def probeOneSpec : ChangeSpec := { name := "probeOne", fn := fun _ => fun
  | [d1, d2, d3, d4, d5] => { results := [.lit (.bool true)], args := [d1, d2, d3, d4, d5] }
  | _ => none }
def probeOneRow : OpenClaim := { program := "ytdbmbbfgcaimgaadoor", sum := "76729eaddaf7d68da658161e3e9127e93cab9eaca99b37c2467d3886cfa4a4da", func := "whitewash/whitewashlaw07.ProbeOne", spec := "probeOne", unfollowed := true, recurses := true, named := ["whitewash/mix.there"], apart := false, laid := [("whitewash/mix.there", laid_whitewash_mix_there)] }
def ProbeOneSaid : Prop := probeOneRow.holds Tryd.pinned (OpenSpec.ofChange probeOneSpec)

/-- ITS FALSE NEIGHBOUR: 'it returns false'. Refute it at one input. -/
def probeOneWrong : ChangeSpec := { name := "probeOne", fn := fun _ => fun
  | [d1, d2, d3, d4, d5] => { results := [.lit (.bool false)], args := [d1, d2, d3, d4, d5] }
  | _ => none }
def ProbeOneWrongFalsely : Prop := probeOneRow.holds Tryd.pinned (OpenSpec.ofChange probeOneWrong)

/-- 'whitewashlaw07.ProbeBack': WHATEVER THE INPUT: true; the input reads as it did. -/
def probeBackSpec : ChangeSpec := { name := "probeBack", fn := fun _ => fun
  | [d1, d2, d3, d4, d5] => { results := [.lit (.bool true)], args := [d1, d2, d3, d4, d5] }
  | _ => none }
def probeBackRow : OpenClaim := { program := "ytdbmbbfgcaimgaadoor", sum := "76729eaddaf7d68da658161e3e9127e93cab9eaca99b37c2467d3886cfa4a4da", func := "whitewash/whitewashlaw07.ProbeBack", spec := "probeBack", unfollowed := true, recurses := true, named := ["whitewash/mix.there"], apart := false, laid := [("whitewash/mix.there", laid_whitewash_mix_there)] }
def ProbeBackSaid : Prop := probeBackRow.holds Tryd.pinned (OpenSpec.ofChange probeBackSpec)

/-- ITS FALSE NEIGHBOUR: 'it returns false'. Refute it at one input. -/
def probeBackWrong : ChangeSpec := { name := "probeBack", fn := fun _ => fun
  | [d1, d2, d3, d4, d5] => { results := [.lit (.bool false)], args := [d1, d2, d3, d4, d5] }
  | _ => none }
def ProbeBackWrongFalsely : Prop := probeBackRow.holds Tryd.pinned (OpenSpec.ofChange probeBackWrong)

/-- 'whitewashlaw07.ProbeLists': WHATEVER THE INPUT: true; the input reads as it did. -/
def probeListsSpec : ChangeSpec := { name := "probeLists", fn := fun _ => fun
  | [d1, d2, d3] => { results := [.lit (.bool true)], args := [d1, d2, d3] }
  | _ => none }
def probeListsRow : OpenClaim := { program := "ytdbmbbfgcaimgaadoor", sum := "76729eaddaf7d68da658161e3e9127e93cab9eaca99b37c2467d3886cfa4a4da", func := "whitewash/whitewashlaw07.ProbeLists", spec := "probeLists", unfollowed := true, recurses := true, named := ["whitewash/mix.there"], apart := false, laid := [("whitewash/mix.there", laid_whitewash_mix_there)] }
def ProbeListsSaid : Prop := probeListsRow.holds Tryd.pinned (OpenSpec.ofChange probeListsSpec)

/-- ITS FALSE NEIGHBOUR: 'it returns false'. Refute it at one input. -/
def probeListsWrong : ChangeSpec := { name := "probeLists", fn := fun _ => fun
  | [d1, d2, d3] => { results := [.lit (.bool false)], args := [d1, d2, d3] }
  | _ => none }
def ProbeListsWrongFalsely : Prop := probeListsRow.holds Tryd.pinned (OpenSpec.ofChange probeListsWrong)

/- THE SECOND FORM. 'bulk': how many values and letters a reading holds, each counted each time it is reached (what is shared counts as often as it is met; a slice's spare places count too). A statement '..UptoSaid' is the law's where the arguments, and the package variables that the reading takes, are together of bulk at most 1048576: NARROWER than '..Said'. Prove '..Said' where nothing that the law and all that it calls make is longer than what came in: it says more and counts as full. Else prove '..UptoSaid'. A law counts once. -/
mutual
def uptoBulk {H : Type} : DataW H → Nat
  | .lit (.string bytes) => bytes.length + 1
  | .lit _ => 1
  | .nil => 1
  | .ptr d => uptoBulk d + 1
  | .slice elems spare => uptoBulkAll elems + uptoBulkAll spare + 1
  | .agg parts => uptoBulkAll parts + 1
  | .iface _ d => uptoBulk d + 1
  | .map entries => uptoBulkEntries entries + 1
  | .held _ => 1
def uptoBulkAll {H : Type} : List (DataW H) → Nat
  | [] => 0
  | d :: r => uptoBulk d + uptoBulkAll r
def uptoBulkEntries {H : Type} : List (Lit × DataW H) → Nat
  | [] => 0
  | x :: r => uptoBulkEntry x + uptoBulkEntries r
def uptoBulkEntry {H : Type} : Lit × DataW H → Nat
  | (.string bytes, d) => bytes.length + uptoBulk d + 1
  | (_, d) => uptoBulk d + 1
 end
def uptoSmall : (H : Type) → List (DataW H) → Bool := fun _ ds => decide (uptoBulkAll ds ≤ 1048576)
def OpenSpec.upto (s : _root_.Go.ChangeSpec) : _root_.Go.OpenSpec := { _root_.Go.OpenSpec.ofChange s with cond := some uptoSmall }

/-- 'whitewashlaw07.ProbeTells', WHERE WHAT IT READS IS OF BULK AT MOST 1048576: true; the input reads as it did. -/
def probeTellsUptoRow : OpenClaim := { program := "ytdbmbbfgcaimgaadoor", sum := "76729eaddaf7d68da658161e3e9127e93cab9eaca99b37c2467d3886cfa4a4da", func := "whitewash/whitewashlaw07.ProbeTells", spec := "probeTells", unfollowed := true, recurses := true, named := ["whitewash/mix.there"], apart := false, laid := [("whitewash/mix.there", laid_whitewash_mix_there)], narrowed := true }
def ProbeTellsUptoSaid : Prop := probeTellsUptoRow.holds Tryd.pinned (OpenSpec.upto probeTellsSpec)

/-- 'whitewashlaw07.ProbeBuilds', WHERE WHAT IT READS IS OF BULK AT MOST 1048576: true; the input reads as it did. -/
def probeBuildsUptoRow : OpenClaim := { program := "ytdbmbbfgcaimgaadoor", sum := "76729eaddaf7d68da658161e3e9127e93cab9eaca99b37c2467d3886cfa4a4da", func := "whitewash/whitewashlaw07.ProbeBuilds", spec := "probeBuilds", unfollowed := true, recurses := true, named := ["whitewash/mix.there"], apart := false, laid := [("whitewash/mix.there", laid_whitewash_mix_there)], narrowed := true }
def ProbeBuildsUptoSaid : Prop := probeBuildsUptoRow.holds Tryd.pinned (OpenSpec.upto probeBuildsSpec)

/-- 'whitewashlaw07.ProbeOne', WHERE WHAT IT READS IS OF BULK AT MOST 1048576: true; the input reads as it did. -/
def probeOneUptoRow : OpenClaim := { program := "ytdbmbbfgcaimgaadoor", sum := "76729eaddaf7d68da658161e3e9127e93cab9eaca99b37c2467d3886cfa4a4da", func := "whitewash/whitewashlaw07.ProbeOne", spec := "probeOne", unfollowed := true, recurses := true, named := ["whitewash/mix.there"], apart := false, laid := [("whitewash/mix.there", laid_whitewash_mix_there)], narrowed := true }
def ProbeOneUptoSaid : Prop := probeOneUptoRow.holds Tryd.pinned (OpenSpec.upto probeOneSpec)

/-- 'whitewashlaw07.ProbeBack', WHERE WHAT IT READS IS OF BULK AT MOST 1048576: true; the input reads as it did. -/
def probeBackUptoRow : OpenClaim := { program := "ytdbmbbfgcaimgaadoor", sum := "76729eaddaf7d68da658161e3e9127e93cab9eaca99b37c2467d3886cfa4a4da", func := "whitewash/whitewashlaw07.ProbeBack", spec := "probeBack", unfollowed := true, recurses := true, named := ["whitewash/mix.there"], apart := false, laid := [("whitewash/mix.there", laid_whitewash_mix_there)], narrowed := true }
def ProbeBackUptoSaid : Prop := probeBackUptoRow.holds Tryd.pinned (OpenSpec.upto probeBackSpec)

/-- 'whitewashlaw07.ProbeLists', WHERE WHAT IT READS IS OF BULK AT MOST 1048576: true; the input reads as it did. -/
def probeListsUptoRow : OpenClaim := { program := "ytdbmbbfgcaimgaadoor", sum := "76729eaddaf7d68da658161e3e9127e93cab9eaca99b37c2467d3886cfa4a4da", func := "whitewash/whitewashlaw07.ProbeLists", spec := "probeLists", unfollowed := true, recurses := true, named := ["whitewash/mix.there"], apart := false, laid := [("whitewash/mix.there", laid_whitewash_mix_there)], narrowed := true }
def ProbeListsUptoSaid : Prop := probeListsUptoRow.holds Tryd.pinned (OpenSpec.upto probeListsSpec)

end Rows
end Go.Proofs.YtdbmbbfgcaimgaaDoor
