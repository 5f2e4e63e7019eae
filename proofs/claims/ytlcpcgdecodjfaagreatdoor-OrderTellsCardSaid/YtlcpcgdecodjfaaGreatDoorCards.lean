/-
  DERIVED. GIVEN WITH THE SEED: THE CARDS: each row of YtlcpcgdecodjfaaGreatDoorRows.lean that lists a variable, with what it lists TIED to the program's text (the seventh form; the later family's looks); each row that meets fmt, with fmt's text TOLD by the authors' own Lean function (tested against real Go, not proved from fmt's source: count such statements apart). THE CARD IS WHAT COUNTS. Prove the row's statement (the work); the ties are given (YtlcpcgdecodjfaaGreatDoorTie.lean); close each card by the builder's one call (the guide's Derived/Test/ToyasCard.lean, 'card_holds'). Laid BY PROGRAM, IN A SANDBOX (cutbox-door.mjs). By AI agents, Wed Nov 11 2026. No macro, syntax, notation, axiom, sorry.
-/
import Derived.Test.YtlcpcgdecodjfaaGreatDoorRows
import GoSem.ClaimSeven
namespace Go.Proofs.YtlcpcgdecodjfaaGreatDoor
namespace Rows

/-- THE TIED CARD OF 'whitewashlaw13.OrderTells'. -/
def orderTellsCard : Claim7 := { stood := { row := orderTellsRow, standIns := [], harness := (true, "59d67b1e7135b2c6ed29b9810cb93c90a6bace00790535fee146ad873a9fad46"), looks := false }, kinds := [], alts := [], laidByText := true, laidKinds := [.data, .data], laidTests := true, laidLooks := .later }
def OrderTellsCardSaid : Prop := Claim7.holds Tryz.pinned (.plain (OpenSpec.ofChange orderTellsSpec)) orderTellsCard

/-- THE TIED CARD OF 'whitewashlaw13.OrderRises'. -/
def orderRisesCard : Claim7 := { stood := { row := orderRisesRow, standIns := [], harness := (true, "59d67b1e7135b2c6ed29b9810cb93c90a6bace00790535fee146ad873a9fad46"), looks := false }, kinds := [], alts := [], laidByText := true, laidKinds := [.data, .data], laidTests := true, laidLooks := .later }
def OrderRisesCardSaid : Prop := Claim7.holds Tryz.pinned (.plain (OpenSpec.ofChange orderRisesSpec)) orderRisesCard

/-- THE SECOND FORM's CARD OF 'whitewashlaw13.OrderTells'. -/
def orderTellsUptoCard : Claim7 := { stood := { row := orderTellsUptoRow, standIns := [], harness := (true, "59d67b1e7135b2c6ed29b9810cb93c90a6bace00790535fee146ad873a9fad46"), looks := false }, kinds := [], alts := [], laidByText := true, laidKinds := [.data, .data], laidTests := true, laidLooks := .later }
def OrderTellsUptoCardSaid : Prop := Claim7.holds Tryz.pinned (.plain (OpenSpec.upto orderTellsSpec)) orderTellsUptoCard

/-- THE SECOND FORM's CARD OF 'whitewashlaw13.OrderRises'. -/
def orderRisesUptoCard : Claim7 := { stood := { row := orderRisesUptoRow, standIns := [], harness := (true, "59d67b1e7135b2c6ed29b9810cb93c90a6bace00790535fee146ad873a9fad46"), looks := false }, kinds := [], alts := [], laidByText := true, laidKinds := [.data, .data], laidTests := true, laidLooks := .later }
def OrderRisesUptoCardSaid : Prop := Claim7.holds Tryz.pinned (.plain (OpenSpec.upto orderRisesSpec)) orderRisesUptoCard
end Rows
end Go.Proofs.YtlcpcgdecodjfaaGreatDoor
