/-
  DERIVED. GIVEN WITH THE SEED: THE CARDS: each row of YtlcpcgdecodjfaaDoorRows.lean that lists a variable, with what it lists TIED to the program's text (the seventh form; the later family's looks); each row that meets fmt, with fmt's text TOLD by the authors' own Lean function (tested against real Go, not proved from fmt's source: count such statements apart). THE CARD IS WHAT COUNTS. Prove the row's statement (the work); the ties are given (YtlcpcgdecodjfaaDoorTie.lean); close each card by the builder's one call (the guide's Derived/Test/ToyasCard.lean, 'card_holds'). Laid BY PROGRAM, IN A SANDBOX (cutbox-door.mjs). By AI agents, Wed Nov 11 2026. No macro, syntax, notation, axiom, sorry.
-/
import Derived.Test.YtlcpcgdecodjfaaDoorRows
import GoSem.ClaimSeven
namespace Go.Proofs.YtlcpcgdecodjfaaDoor
namespace Rows

/-- THE TIED CARD OF 'whitewashlaw14.PlainTells'. -/
def plainTellsCard : Claim7 := { stood := { row := plainTellsRow, standIns := [], harness := (true, "b7fafffc7d0d819aa0e4e443436253f513cab8257b56ec3c2cae2f3ed4d2ca03"), looks := false }, kinds := [], alts := [], laidByText := true, laidKinds := [.data], laidTests := true, laidLooks := .later }
def PlainTellsCardSaid : Prop := Claim7.holds Tryd.pinned (.plain (OpenSpec.ofChange plainTellsSpec)) plainTellsCard

/-- THE TIED CARD OF 'whitewashlaw14.PlainOne'. -/
def plainOneCard : Claim7 := { stood := { row := plainOneRow, standIns := [], harness := (true, "b7fafffc7d0d819aa0e4e443436253f513cab8257b56ec3c2cae2f3ed4d2ca03"), looks := false }, kinds := [], alts := [], laidByText := true, laidKinds := [.data], laidTests := true, laidLooks := .later }
def PlainOneCardSaid : Prop := Claim7.holds Tryd.pinned (.plain (OpenSpec.ofChange plainOneSpec)) plainOneCard

/-- THE TIED CARD OF 'whitewashlaw14.PlainWinner'. -/
def plainWinnerCard : Claim7 := { stood := { row := plainWinnerRow, standIns := [], harness := (true, "b7fafffc7d0d819aa0e4e443436253f513cab8257b56ec3c2cae2f3ed4d2ca03"), looks := false }, kinds := [], alts := [], laidByText := true, laidKinds := [.data], laidTests := true, laidLooks := .later }
def PlainWinnerCardSaid : Prop := Claim7.holds Tryd.pinned (.plain (OpenSpec.ofChange plainWinnerSpec)) plainWinnerCard

/-- THE TIED CARD OF 'whitewashlaw13.OrderOne'. -/
def orderOneCard : Claim7 := { stood := { row := orderOneRow, standIns := [], harness := (true, "b7fafffc7d0d819aa0e4e443436253f513cab8257b56ec3c2cae2f3ed4d2ca03"), looks := false }, kinds := [], alts := [], laidByText := true, laidKinds := [.data, .data], laidTests := true, laidLooks := .later }
def OrderOneCardSaid : Prop := Claim7.holds Tryd.pinned (.plain (OpenSpec.ofChange orderOneSpec)) orderOneCard

/-- THE TIED CARD OF 'whitewashlaw13.OrderWays'. -/
def orderWaysCard : Claim7 := { stood := { row := orderWaysRow, standIns := [], harness := (true, "b7fafffc7d0d819aa0e4e443436253f513cab8257b56ec3c2cae2f3ed4d2ca03"), looks := false }, kinds := [], alts := [], laidByText := true, laidKinds := [.data, .data], laidTests := true, laidLooks := .later }
def OrderWaysCardSaid : Prop := Claim7.holds Tryd.pinned (.plain (OpenSpec.ofChange orderWaysSpec)) orderWaysCard

/-- THE TIED CARD OF 'whitewashlaw13.OrderNext'. -/
def orderNextCard : Claim7 := { stood := { row := orderNextRow, standIns := [], harness := (true, "b7fafffc7d0d819aa0e4e443436253f513cab8257b56ec3c2cae2f3ed4d2ca03"), looks := false }, kinds := [], alts := [], laidByText := true, laidKinds := [.data, .data], laidTests := true, laidLooks := .later }
def OrderNextCardSaid : Prop := Claim7.holds Tryd.pinned (.plain (OpenSpec.ofChange orderNextSpec)) orderNextCard

/-- THE SECOND FORM's CARD OF 'whitewashlaw14.PlainTells'. -/
def plainTellsUptoCard : Claim7 := { stood := { row := plainTellsUptoRow, standIns := [], harness := (true, "b7fafffc7d0d819aa0e4e443436253f513cab8257b56ec3c2cae2f3ed4d2ca03"), looks := false }, kinds := [], alts := [], laidByText := true, laidKinds := [.data], laidTests := true, laidLooks := .later }
def PlainTellsUptoCardSaid : Prop := Claim7.holds Tryd.pinned (.plain (OpenSpec.upto plainTellsSpec)) plainTellsUptoCard

/-- THE SECOND FORM's CARD OF 'whitewashlaw14.PlainOne'. -/
def plainOneUptoCard : Claim7 := { stood := { row := plainOneUptoRow, standIns := [], harness := (true, "b7fafffc7d0d819aa0e4e443436253f513cab8257b56ec3c2cae2f3ed4d2ca03"), looks := false }, kinds := [], alts := [], laidByText := true, laidKinds := [.data], laidTests := true, laidLooks := .later }
def PlainOneUptoCardSaid : Prop := Claim7.holds Tryd.pinned (.plain (OpenSpec.upto plainOneSpec)) plainOneUptoCard

/-- THE SECOND FORM's CARD OF 'whitewashlaw14.PlainWinner'. -/
def plainWinnerUptoCard : Claim7 := { stood := { row := plainWinnerUptoRow, standIns := [], harness := (true, "b7fafffc7d0d819aa0e4e443436253f513cab8257b56ec3c2cae2f3ed4d2ca03"), looks := false }, kinds := [], alts := [], laidByText := true, laidKinds := [.data], laidTests := true, laidLooks := .later }
def PlainWinnerUptoCardSaid : Prop := Claim7.holds Tryd.pinned (.plain (OpenSpec.upto plainWinnerSpec)) plainWinnerUptoCard

/-- THE SECOND FORM's CARD OF 'whitewashlaw13.OrderOne'. -/
def orderOneUptoCard : Claim7 := { stood := { row := orderOneUptoRow, standIns := [], harness := (true, "b7fafffc7d0d819aa0e4e443436253f513cab8257b56ec3c2cae2f3ed4d2ca03"), looks := false }, kinds := [], alts := [], laidByText := true, laidKinds := [.data, .data], laidTests := true, laidLooks := .later }
def OrderOneUptoCardSaid : Prop := Claim7.holds Tryd.pinned (.plain (OpenSpec.upto orderOneSpec)) orderOneUptoCard

/-- THE SECOND FORM's CARD OF 'whitewashlaw13.OrderWays'. -/
def orderWaysUptoCard : Claim7 := { stood := { row := orderWaysUptoRow, standIns := [], harness := (true, "b7fafffc7d0d819aa0e4e443436253f513cab8257b56ec3c2cae2f3ed4d2ca03"), looks := false }, kinds := [], alts := [], laidByText := true, laidKinds := [.data, .data], laidTests := true, laidLooks := .later }
def OrderWaysUptoCardSaid : Prop := Claim7.holds Tryd.pinned (.plain (OpenSpec.upto orderWaysSpec)) orderWaysUptoCard

/-- THE SECOND FORM's CARD OF 'whitewashlaw13.OrderNext'. -/
def orderNextUptoCard : Claim7 := { stood := { row := orderNextUptoRow, standIns := [], harness := (true, "b7fafffc7d0d819aa0e4e443436253f513cab8257b56ec3c2cae2f3ed4d2ca03"), looks := false }, kinds := [], alts := [], laidByText := true, laidKinds := [.data, .data], laidTests := true, laidLooks := .later }
def OrderNextUptoCardSaid : Prop := Claim7.holds Tryd.pinned (.plain (OpenSpec.upto orderNextSpec)) orderNextUptoCard
end Rows
end Go.Proofs.YtlcpcgdecodjfaaDoor
