/-
  DERIVED. GIVEN WITH THE SEED: THE CARDS: each row of YtdbmbbfgcaimgaaDoorRows.lean that lists a variable, with what it lists TIED to the program's text (the seventh form; the later family's looks); each row that meets fmt, with fmt's text TOLD by the authors' own Lean function (tested against real Go, not proved from fmt's source: count such statements apart). THE CARD IS WHAT COUNTS. Prove the row's statement (the work); the ties are given (YtdbmbbfgcaimgaaDoorTie.lean); close each card by the builder's one call (the guide's Derived/Test/ToyasCard.lean, 'card_holds'). Laid BY PROGRAM, IN A SANDBOX (cutbox-door.mjs). By AI agents, Wed Nov 11 2026. No macro, syntax, notation, axiom, sorry.
-/
import Derived.Test.YtdbmbbfgcaimgaaDoorRows
import GoSem.ClaimSeven
namespace Go.Proofs.YtdbmbbfgcaimgaaDoor
namespace Rows

/-- THE TIED CARD OF 'whitewashlaw07.ProbeTells'. -/
def probeTellsCard : Claim7 := { stood := { row := probeTellsRow, standIns := [], harness := (true, "75f949afb78e541aca6cde800b963f7e5cc89a68ca059011240e733de929e40c"), looks := false }, kinds := [], alts := [], laidByText := true, laidKinds := [.data], laidTests := true, laidLooks := .later }
def ProbeTellsCardSaid : Prop := Claim7.holds Tryd.pinned (.plain (OpenSpec.ofChange probeTellsSpec)) probeTellsCard

/-- THE TIED CARD OF 'whitewashlaw07.ProbeBuilds'. -/
def probeBuildsCard : Claim7 := { stood := { row := probeBuildsRow, standIns := [], harness := (true, "75f949afb78e541aca6cde800b963f7e5cc89a68ca059011240e733de929e40c"), looks := false }, kinds := [], alts := [], laidByText := true, laidKinds := [.data], laidTests := true, laidLooks := .later }
def ProbeBuildsCardSaid : Prop := Claim7.holds Tryd.pinned (.plain (OpenSpec.ofChange probeBuildsSpec)) probeBuildsCard

/-- THE TIED CARD OF 'whitewashlaw07.ProbeOne'. -/
def probeOneCard : Claim7 := { stood := { row := probeOneRow, standIns := [], harness := (true, "75f949afb78e541aca6cde800b963f7e5cc89a68ca059011240e733de929e40c"), looks := false }, kinds := [], alts := [], laidByText := true, laidKinds := [.data], laidTests := true, laidLooks := .later }
def ProbeOneCardSaid : Prop := Claim7.holds Tryd.pinned (.plain (OpenSpec.ofChange probeOneSpec)) probeOneCard

/-- THE TIED CARD OF 'whitewashlaw07.ProbeBack'. -/
def probeBackCard : Claim7 := { stood := { row := probeBackRow, standIns := [], harness := (true, "75f949afb78e541aca6cde800b963f7e5cc89a68ca059011240e733de929e40c"), looks := false }, kinds := [], alts := [], laidByText := true, laidKinds := [.data], laidTests := true, laidLooks := .later }
def ProbeBackCardSaid : Prop := Claim7.holds Tryd.pinned (.plain (OpenSpec.ofChange probeBackSpec)) probeBackCard

/-- THE TIED CARD OF 'whitewashlaw07.ProbeLists'. -/
def probeListsCard : Claim7 := { stood := { row := probeListsRow, standIns := [], harness := (true, "75f949afb78e541aca6cde800b963f7e5cc89a68ca059011240e733de929e40c"), looks := false }, kinds := [], alts := [], laidByText := true, laidKinds := [.data], laidTests := true, laidLooks := .later }
def ProbeListsCardSaid : Prop := Claim7.holds Tryd.pinned (.plain (OpenSpec.ofChange probeListsSpec)) probeListsCard

/-- THE SECOND FORM's CARD OF 'whitewashlaw07.ProbeTells'. -/
def probeTellsUptoCard : Claim7 := { stood := { row := probeTellsUptoRow, standIns := [], harness := (true, "75f949afb78e541aca6cde800b963f7e5cc89a68ca059011240e733de929e40c"), looks := false }, kinds := [], alts := [], laidByText := true, laidKinds := [.data], laidTests := true, laidLooks := .later }
def ProbeTellsUptoCardSaid : Prop := Claim7.holds Tryd.pinned (.plain (OpenSpec.upto probeTellsSpec)) probeTellsUptoCard

/-- THE SECOND FORM's CARD OF 'whitewashlaw07.ProbeBuilds'. -/
def probeBuildsUptoCard : Claim7 := { stood := { row := probeBuildsUptoRow, standIns := [], harness := (true, "75f949afb78e541aca6cde800b963f7e5cc89a68ca059011240e733de929e40c"), looks := false }, kinds := [], alts := [], laidByText := true, laidKinds := [.data], laidTests := true, laidLooks := .later }
def ProbeBuildsUptoCardSaid : Prop := Claim7.holds Tryd.pinned (.plain (OpenSpec.upto probeBuildsSpec)) probeBuildsUptoCard

/-- THE SECOND FORM's CARD OF 'whitewashlaw07.ProbeOne'. -/
def probeOneUptoCard : Claim7 := { stood := { row := probeOneUptoRow, standIns := [], harness := (true, "75f949afb78e541aca6cde800b963f7e5cc89a68ca059011240e733de929e40c"), looks := false }, kinds := [], alts := [], laidByText := true, laidKinds := [.data], laidTests := true, laidLooks := .later }
def ProbeOneUptoCardSaid : Prop := Claim7.holds Tryd.pinned (.plain (OpenSpec.upto probeOneSpec)) probeOneUptoCard

/-- THE SECOND FORM's CARD OF 'whitewashlaw07.ProbeBack'. -/
def probeBackUptoCard : Claim7 := { stood := { row := probeBackUptoRow, standIns := [], harness := (true, "75f949afb78e541aca6cde800b963f7e5cc89a68ca059011240e733de929e40c"), looks := false }, kinds := [], alts := [], laidByText := true, laidKinds := [.data], laidTests := true, laidLooks := .later }
def ProbeBackUptoCardSaid : Prop := Claim7.holds Tryd.pinned (.plain (OpenSpec.upto probeBackSpec)) probeBackUptoCard

/-- THE SECOND FORM's CARD OF 'whitewashlaw07.ProbeLists'. -/
def probeListsUptoCard : Claim7 := { stood := { row := probeListsUptoRow, standIns := [], harness := (true, "75f949afb78e541aca6cde800b963f7e5cc89a68ca059011240e733de929e40c"), looks := false }, kinds := [], alts := [], laidByText := true, laidKinds := [.data], laidTests := true, laidLooks := .later }
def ProbeListsUptoCardSaid : Prop := Claim7.holds Tryd.pinned (.plain (OpenSpec.upto probeListsSpec)) probeListsUptoCard
end Rows
end Go.Proofs.YtdbmbbfgcaimgaaDoor
