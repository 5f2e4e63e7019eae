/-
  DERIVED. GIVEN WITH THE SEED: THE CARDS: each row of YtpjohbnnjhkjoaaDoorRows.lean that lists a variable, with what it lists TIED to the program's text (the seventh form; the later family's looks); each row that meets fmt, with fmt's text TOLD by the authors' own Lean function (tested against real Go, not proved from fmt's source: count such statements apart). THE CARD IS WHAT COUNTS. Prove the row's statement (the work); the ties are given (YtpjohbnnjhkjoaaDoorTie.lean); close each card by the builder's one call (the guide's Derived/Test/ToyasCard.lean, 'card_holds'). Laid BY PROGRAM, IN A SANDBOX (cutbox-door.mjs). By AI agents, Wed Nov 11 2026. No macro, syntax, notation, axiom, sorry.
-/
import Derived.Test.YtpjohbnnjhkjoaaDoorRows
import GoSem.ClaimSeven
namespace Go.Proofs.YtpjohbnnjhkjoaaDoor
namespace Rows

/-- THE TIED CARD OF 'whitewashlaw14.PlainTells'. -/
def plainTellsCard : Claim7 := { stood := { row := plainTellsRow, standIns := [], harness := (true, "036ce1498ac40b6212100c73a92156d0491271845e4e64a6d2d15b1e82ed2262"), looks := false }, kinds := [], alts := [], laidByText := true, laidKinds := [.data], laidTests := true, laidLooks := .later }
def PlainTellsCardSaid : Prop := Claim7.holds Tryd.pinned (.plain (OpenSpec.ofChange plainTellsSpec)) plainTellsCard

/-- THE TIED CARD OF 'whitewashlaw14.PlainOne'. -/
def plainOneCard : Claim7 := { stood := { row := plainOneRow, standIns := [], harness := (true, "036ce1498ac40b6212100c73a92156d0491271845e4e64a6d2d15b1e82ed2262"), looks := false }, kinds := [], alts := [], laidByText := true, laidKinds := [.data], laidTests := true, laidLooks := .later }
def PlainOneCardSaid : Prop := Claim7.holds Tryd.pinned (.plain (OpenSpec.ofChange plainOneSpec)) plainOneCard

/-- THE TIED CARD OF 'whitewashlaw14.PlainFold'. -/
def plainFoldCard : Claim7 := { stood := { row := plainFoldRow, standIns := [], harness := (true, "036ce1498ac40b6212100c73a92156d0491271845e4e64a6d2d15b1e82ed2262"), looks := false }, kinds := [], alts := [], laidByText := true, laidKinds := [.data], laidTests := true, laidLooks := .later }
def PlainFoldCardSaid : Prop := Claim7.holds Tryd.pinned (.plain (OpenSpec.ofChange plainFoldSpec)) plainFoldCard

/-- THE TIED CARD OF 'whitewashlaw14.PlainWinner'. -/
def plainWinnerCard : Claim7 := { stood := { row := plainWinnerRow, standIns := [], harness := (true, "036ce1498ac40b6212100c73a92156d0491271845e4e64a6d2d15b1e82ed2262"), looks := false }, kinds := [], alts := [], laidByText := true, laidKinds := [.data], laidTests := true, laidLooks := .later }
def PlainWinnerCardSaid : Prop := Claim7.holds Tryd.pinned (.plain (OpenSpec.ofChange plainWinnerSpec)) plainWinnerCard

/-- THE TIED CARD OF 'whitewashlaw14.PlainMax'. -/
def plainMaxCard : Claim7 := { stood := { row := plainMaxRow, standIns := [], harness := (true, "036ce1498ac40b6212100c73a92156d0491271845e4e64a6d2d15b1e82ed2262"), looks := false }, kinds := [], alts := [], laidByText := true, laidKinds := [.data], laidTests := true, laidLooks := .later }
def PlainMaxCardSaid : Prop := Claim7.holds Tryd.pinned (.plain (OpenSpec.ofChange plainMaxSpec)) plainMaxCard

/-- THE SECOND FORM's CARD OF 'whitewashlaw14.PlainTells'. -/
def plainTellsUptoCard : Claim7 := { stood := { row := plainTellsUptoRow, standIns := [], harness := (true, "036ce1498ac40b6212100c73a92156d0491271845e4e64a6d2d15b1e82ed2262"), looks := false }, kinds := [], alts := [], laidByText := true, laidKinds := [.data], laidTests := true, laidLooks := .later }
def PlainTellsUptoCardSaid : Prop := Claim7.holds Tryd.pinned (.plain (OpenSpec.upto plainTellsSpec)) plainTellsUptoCard

/-- THE SECOND FORM's CARD OF 'whitewashlaw14.PlainOne'. -/
def plainOneUptoCard : Claim7 := { stood := { row := plainOneUptoRow, standIns := [], harness := (true, "036ce1498ac40b6212100c73a92156d0491271845e4e64a6d2d15b1e82ed2262"), looks := false }, kinds := [], alts := [], laidByText := true, laidKinds := [.data], laidTests := true, laidLooks := .later }
def PlainOneUptoCardSaid : Prop := Claim7.holds Tryd.pinned (.plain (OpenSpec.upto plainOneSpec)) plainOneUptoCard

/-- THE SECOND FORM's CARD OF 'whitewashlaw14.PlainFold'. -/
def plainFoldUptoCard : Claim7 := { stood := { row := plainFoldUptoRow, standIns := [], harness := (true, "036ce1498ac40b6212100c73a92156d0491271845e4e64a6d2d15b1e82ed2262"), looks := false }, kinds := [], alts := [], laidByText := true, laidKinds := [.data], laidTests := true, laidLooks := .later }
def PlainFoldUptoCardSaid : Prop := Claim7.holds Tryd.pinned (.plain (OpenSpec.upto plainFoldSpec)) plainFoldUptoCard

/-- THE SECOND FORM's CARD OF 'whitewashlaw14.PlainWinner'. -/
def plainWinnerUptoCard : Claim7 := { stood := { row := plainWinnerUptoRow, standIns := [], harness := (true, "036ce1498ac40b6212100c73a92156d0491271845e4e64a6d2d15b1e82ed2262"), looks := false }, kinds := [], alts := [], laidByText := true, laidKinds := [.data], laidTests := true, laidLooks := .later }
def PlainWinnerUptoCardSaid : Prop := Claim7.holds Tryd.pinned (.plain (OpenSpec.upto plainWinnerSpec)) plainWinnerUptoCard

/-- THE SECOND FORM's CARD OF 'whitewashlaw14.PlainMax'. -/
def plainMaxUptoCard : Claim7 := { stood := { row := plainMaxUptoRow, standIns := [], harness := (true, "036ce1498ac40b6212100c73a92156d0491271845e4e64a6d2d15b1e82ed2262"), looks := false }, kinds := [], alts := [], laidByText := true, laidKinds := [.data], laidTests := true, laidLooks := .later }
def PlainMaxUptoCardSaid : Prop := Claim7.holds Tryd.pinned (.plain (OpenSpec.upto plainMaxSpec)) plainMaxUptoCard
end Rows
end Go.Proofs.YtpjohbnnjhkjoaaDoor
