/-
  DERIVED. GIVEN WITH THE SEED: THE CARDS: each row of YtnplgklnkcjmnaaGreatDoorRows.lean that lists a variable, with what it lists TIED to the program's text (the seventh form; the later family's looks); each row that meets fmt, with fmt's text TOLD by the authors' own Lean function (tested against real Go, not proved from fmt's source: count such statements apart). THE CARD IS WHAT COUNTS. Prove the row's statement (the work); the ties are given (YtnplgklnkcjmnaaGreatDoorTie.lean); close each card by the builder's one call (the guide's Derived/Test/ToyasCard.lean, 'card_holds'). Laid BY PROGRAM, IN A SANDBOX (cutbox-door.mjs). By AI agents, Wed Nov 11 2026. No macro, syntax, notation, axiom, sorry.
-/
import Derived.Test.YtnplgklnkcjmnaaGreatDoorRows
import GoSem.ClaimSeven
namespace Go.Proofs.YtnplgklnkcjmnaaGreatDoor
namespace Rows

/-- THE TIED CARD OF 'whitewashlaw12.DictTells'. -/
def dictTellsCard : Claim7 := { stood := { row := dictTellsRow, standIns := [], harness := (true, "41e8936efe48f08880aa59aadd819816c542c0fd8393a9dadf0be57b02aef905"), looks := false }, kinds := [], alts := [], laidByText := true, laidKinds := [.data, .data], laidTests := true, laidLooks := .later }
def DictTellsCardSaid : Prop := Claim7.holds Tryz.pinned (.plain (OpenSpec.ofChange dictTellsSpec)) dictTellsCard

/-- THE TIED CARD OF 'whitewashlaw12.DictUpdate'. -/
def dictUpdateCard : Claim7 := { stood := { row := dictUpdateRow, standIns := [], harness := (true, "41e8936efe48f08880aa59aadd819816c542c0fd8393a9dadf0be57b02aef905"), looks := false }, kinds := [], alts := [], laidByText := true, laidKinds := [.data, .data], laidTests := true, laidLooks := .later }
def DictUpdateCardSaid : Prop := Claim7.holds Tryz.pinned (.plain (OpenSpec.ofChange dictUpdateSpec)) dictUpdateCard

/-- THE TIED CARD OF 'whitewashlaw12.DictStill'. -/
def dictStillCard : Claim7 := { stood := { row := dictStillRow, standIns := [], harness := (true, "41e8936efe48f08880aa59aadd819816c542c0fd8393a9dadf0be57b02aef905"), looks := false }, kinds := [], alts := [], laidByText := true, laidKinds := [.data, .data], laidTests := true, laidLooks := .later }
def DictStillCardSaid : Prop := Claim7.holds Tryz.pinned (.plain (OpenSpec.ofChange dictStillSpec)) dictStillCard

/-- THE TIED CARD OF 'whitewashlaw11.SetsTells'. -/
def setsTellsCard : Claim7 := { stood := { row := setsTellsRow, standIns := [], harness := (true, "41e8936efe48f08880aa59aadd819816c542c0fd8393a9dadf0be57b02aef905"), looks := false }, kinds := [], alts := [], laidByText := true, laidKinds := [.data, .data], laidTests := true, laidLooks := .later }
def SetsTellsCardSaid : Prop := Claim7.holds Tryz.pinned (.plain (OpenSpec.ofChange setsTellsSpec)) setsTellsCard

/-- THE TIED CARD OF 'whitewashlaw11.SetsBack'. -/
def setsBackCard : Claim7 := { stood := { row := setsBackRow, standIns := [], harness := (true, "41e8936efe48f08880aa59aadd819816c542c0fd8393a9dadf0be57b02aef905"), looks := false }, kinds := [], alts := [], laidByText := true, laidKinds := [.data, .data], laidTests := true, laidLooks := .later }
def SetsBackCardSaid : Prop := Claim7.holds Tryz.pinned (.plain (OpenSpec.ofChange setsBackSpec)) setsBackCard

/-- THE TIED CARD OF 'whitewashlaw11.SetsStill'. -/
def setsStillCard : Claim7 := { stood := { row := setsStillRow, standIns := [], harness := (true, "41e8936efe48f08880aa59aadd819816c542c0fd8393a9dadf0be57b02aef905"), looks := false }, kinds := [], alts := [], laidByText := true, laidKinds := [.data, .data], laidTests := true, laidLooks := .later }
def SetsStillCardSaid : Prop := Claim7.holds Tryz.pinned (.plain (OpenSpec.ofChange setsStillSpec)) setsStillCard

/-- THE TIED CARD OF 'whitewashlaw11.SetsWalk'. -/
def setsWalkCard : Claim7 := { stood := { row := setsWalkRow, standIns := [], harness := (true, "41e8936efe48f08880aa59aadd819816c542c0fd8393a9dadf0be57b02aef905"), looks := false }, kinds := [], alts := [], laidByText := true, laidKinds := [.data, .data], laidTests := true, laidLooks := .later }
def SetsWalkCardSaid : Prop := Claim7.holds Tryz.pinned (.plain (OpenSpec.ofChange setsWalkSpec)) setsWalkCard

/-- THE SECOND FORM's CARD OF 'whitewashlaw12.DictTells'. -/
def dictTellsUptoCard : Claim7 := { stood := { row := dictTellsUptoRow, standIns := [], harness := (true, "41e8936efe48f08880aa59aadd819816c542c0fd8393a9dadf0be57b02aef905"), looks := false }, kinds := [], alts := [], laidByText := true, laidKinds := [.data, .data], laidTests := true, laidLooks := .later }
def DictTellsUptoCardSaid : Prop := Claim7.holds Tryz.pinned (.plain (OpenSpec.upto dictTellsSpec)) dictTellsUptoCard

/-- THE SECOND FORM's CARD OF 'whitewashlaw12.DictUpdate'. -/
def dictUpdateUptoCard : Claim7 := { stood := { row := dictUpdateUptoRow, standIns := [], harness := (true, "41e8936efe48f08880aa59aadd819816c542c0fd8393a9dadf0be57b02aef905"), looks := false }, kinds := [], alts := [], laidByText := true, laidKinds := [.data, .data], laidTests := true, laidLooks := .later }
def DictUpdateUptoCardSaid : Prop := Claim7.holds Tryz.pinned (.plain (OpenSpec.upto dictUpdateSpec)) dictUpdateUptoCard

/-- THE SECOND FORM's CARD OF 'whitewashlaw12.DictStill'. -/
def dictStillUptoCard : Claim7 := { stood := { row := dictStillUptoRow, standIns := [], harness := (true, "41e8936efe48f08880aa59aadd819816c542c0fd8393a9dadf0be57b02aef905"), looks := false }, kinds := [], alts := [], laidByText := true, laidKinds := [.data, .data], laidTests := true, laidLooks := .later }
def DictStillUptoCardSaid : Prop := Claim7.holds Tryz.pinned (.plain (OpenSpec.upto dictStillSpec)) dictStillUptoCard

/-- THE SECOND FORM's CARD OF 'whitewashlaw11.SetsTells'. -/
def setsTellsUptoCard : Claim7 := { stood := { row := setsTellsUptoRow, standIns := [], harness := (true, "41e8936efe48f08880aa59aadd819816c542c0fd8393a9dadf0be57b02aef905"), looks := false }, kinds := [], alts := [], laidByText := true, laidKinds := [.data, .data], laidTests := true, laidLooks := .later }
def SetsTellsUptoCardSaid : Prop := Claim7.holds Tryz.pinned (.plain (OpenSpec.upto setsTellsSpec)) setsTellsUptoCard

/-- THE SECOND FORM's CARD OF 'whitewashlaw11.SetsBack'. -/
def setsBackUptoCard : Claim7 := { stood := { row := setsBackUptoRow, standIns := [], harness := (true, "41e8936efe48f08880aa59aadd819816c542c0fd8393a9dadf0be57b02aef905"), looks := false }, kinds := [], alts := [], laidByText := true, laidKinds := [.data, .data], laidTests := true, laidLooks := .later }
def SetsBackUptoCardSaid : Prop := Claim7.holds Tryz.pinned (.plain (OpenSpec.upto setsBackSpec)) setsBackUptoCard

/-- THE SECOND FORM's CARD OF 'whitewashlaw11.SetsStill'. -/
def setsStillUptoCard : Claim7 := { stood := { row := setsStillUptoRow, standIns := [], harness := (true, "41e8936efe48f08880aa59aadd819816c542c0fd8393a9dadf0be57b02aef905"), looks := false }, kinds := [], alts := [], laidByText := true, laidKinds := [.data, .data], laidTests := true, laidLooks := .later }
def SetsStillUptoCardSaid : Prop := Claim7.holds Tryz.pinned (.plain (OpenSpec.upto setsStillSpec)) setsStillUptoCard

/-- THE SECOND FORM's CARD OF 'whitewashlaw11.SetsWalk'. -/
def setsWalkUptoCard : Claim7 := { stood := { row := setsWalkUptoRow, standIns := [], harness := (true, "41e8936efe48f08880aa59aadd819816c542c0fd8393a9dadf0be57b02aef905"), looks := false }, kinds := [], alts := [], laidByText := true, laidKinds := [.data, .data], laidTests := true, laidLooks := .later }
def SetsWalkUptoCardSaid : Prop := Claim7.holds Tryz.pinned (.plain (OpenSpec.upto setsWalkSpec)) setsWalkUptoCard
end Rows
end Go.Proofs.YtnplgklnkcjmnaaGreatDoor
