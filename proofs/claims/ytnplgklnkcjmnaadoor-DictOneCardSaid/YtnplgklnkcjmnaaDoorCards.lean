/-
  DERIVED. GIVEN WITH THE SEED: THE CARDS: each row of YtnplgklnkcjmnaaDoorRows.lean that lists a variable, with what it lists TIED to the program's text (the seventh form; the later family's looks); each row that meets fmt, with fmt's text TOLD by the authors' own Lean function (tested against real Go, not proved from fmt's source: count such statements apart). THE CARD IS WHAT COUNTS. Prove the row's statement (the work); the ties are given (YtnplgklnkcjmnaaDoorTie.lean); close each card by the builder's one call (the guide's Derived/Test/ToyasCard.lean, 'card_holds'). Laid BY PROGRAM, IN A SANDBOX (cutbox-door.mjs). By AI agents, Wed Nov 11 2026. No macro, syntax, notation, axiom, sorry.
-/
import Derived.Test.YtnplgklnkcjmnaaDoorRows
import GoSem.ClaimSeven
namespace Go.Proofs.YtnplgklnkcjmnaaDoor
namespace Rows

/-- THE TIED CARD OF 'whitewashlaw12.DictOne'. -/
def dictOneCard : Claim7 := { stood := { row := dictOneRow, standIns := [], harness := (true, "7dc65f6d600be56362245aa075dbffd7f65662086120c487ea83719c876b2328"), looks := false }, kinds := [], alts := [], laidByText := true, laidKinds := [.data, .data], laidTests := true, laidLooks := .later }
def DictOneCardSaid : Prop := Claim7.holds Tryd.pinned (.plain (OpenSpec.ofChange dictOneSpec)) dictOneCard

/-- THE TIED CARD OF 'whitewashlaw12.DictLast'. -/
def dictLastCard : Claim7 := { stood := { row := dictLastRow, standIns := [], harness := (true, "7dc65f6d600be56362245aa075dbffd7f65662086120c487ea83719c876b2328"), looks := false }, kinds := [], alts := [], laidByText := true, laidKinds := [.data, .data], laidTests := true, laidLooks := .later }
def DictLastCardSaid : Prop := Claim7.holds Tryd.pinned (.plain (OpenSpec.ofChange dictLastSpec)) dictLastCard

/-- THE TIED CARD OF 'whitewashlaw11.SetsOne'. -/
def setsOneCard : Claim7 := { stood := { row := setsOneRow, standIns := [], harness := (true, "7dc65f6d600be56362245aa075dbffd7f65662086120c487ea83719c876b2328"), looks := false }, kinds := [], alts := [], laidByText := true, laidKinds := [.data, .data], laidTests := true, laidLooks := .later }
def SetsOneCardSaid : Prop := Claim7.holds Tryd.pinned (.plain (OpenSpec.ofChange setsOneSpec)) setsOneCard

/-- THE SECOND FORM's CARD OF 'whitewashlaw12.DictOne'. -/
def dictOneUptoCard : Claim7 := { stood := { row := dictOneUptoRow, standIns := [], harness := (true, "7dc65f6d600be56362245aa075dbffd7f65662086120c487ea83719c876b2328"), looks := false }, kinds := [], alts := [], laidByText := true, laidKinds := [.data, .data], laidTests := true, laidLooks := .later }
def DictOneUptoCardSaid : Prop := Claim7.holds Tryd.pinned (.plain (OpenSpec.upto dictOneSpec)) dictOneUptoCard

/-- THE SECOND FORM's CARD OF 'whitewashlaw12.DictLast'. -/
def dictLastUptoCard : Claim7 := { stood := { row := dictLastUptoRow, standIns := [], harness := (true, "7dc65f6d600be56362245aa075dbffd7f65662086120c487ea83719c876b2328"), looks := false }, kinds := [], alts := [], laidByText := true, laidKinds := [.data, .data], laidTests := true, laidLooks := .later }
def DictLastUptoCardSaid : Prop := Claim7.holds Tryd.pinned (.plain (OpenSpec.upto dictLastSpec)) dictLastUptoCard

/-- THE SECOND FORM's CARD OF 'whitewashlaw11.SetsOne'. -/
def setsOneUptoCard : Claim7 := { stood := { row := setsOneUptoRow, standIns := [], harness := (true, "7dc65f6d600be56362245aa075dbffd7f65662086120c487ea83719c876b2328"), looks := false }, kinds := [], alts := [], laidByText := true, laidKinds := [.data, .data], laidTests := true, laidLooks := .later }
def SetsOneUptoCardSaid : Prop := Claim7.holds Tryd.pinned (.plain (OpenSpec.upto setsOneSpec)) setsOneUptoCard
end Rows
end Go.Proofs.YtnplgklnkcjmnaaDoor
