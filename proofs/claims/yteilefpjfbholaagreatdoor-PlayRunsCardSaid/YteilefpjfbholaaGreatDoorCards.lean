/-
  DERIVED. GIVEN WITH THE SEED: THE CARDS: each row of YteilefpjfbholaaGreatDoorRows.lean that lists a variable, with what it lists TIED to the program's text (the seventh form; the later family's looks); each row that meets fmt, with fmt's text TOLD by the authors' own Lean function (tested against real Go, not proved from fmt's source: count such statements apart). THE CARD IS WHAT COUNTS. Prove the row's statement (the work); the ties are given (YteilefpjfbholaaGreatDoorTie.lean); close each card by the builder's one call (the guide's Derived/Test/ToyasCard.lean, 'card_holds'). Laid BY PROGRAM, IN A SANDBOX (cutbox-door.mjs). By AI agents, Wed Nov 11 2026. No macro, syntax, notation, axiom, sorry.
-/
import Derived.Test.YteilefpjfbholaaGreatDoorRows
import GoSem.ClaimSeven
namespace Go.Proofs.YteilefpjfbholaaGreatDoor
namespace Rows

/-- THE TIED CARD OF 'levelhandlaw3.BalanceFalls'. -/
def balanceFallsCard : Claim7 := { stood := { row := balanceFallsRow, standIns := [], harness := (true, "fc01517e5dfe4fc7c5a2a89bfa702f8bceeed387e31b558d6d735a27e8b2733c"), looks := true }, kinds := [], alts := [], laidByText := true, laidKinds := [.sentinel, .sentinel, .sentinel, .sentinel, .sentinel, .sentinel], laidTests := true, laidLooks := .later }
def BalanceFallsCardSaid : Prop := Claim7.holds Tryz.pinned (.plain (OpenSpec.ofChange balanceFallsSpec)) balanceFallsCard

/-- THE TIED CARD OF 'levelhandlaw3.BalanceOver'. -/
def balanceOverCard : Claim7 := { stood := { row := balanceOverRow, standIns := [], harness := (true, "fc01517e5dfe4fc7c5a2a89bfa702f8bceeed387e31b558d6d735a27e8b2733c"), looks := true }, kinds := [], alts := [], laidByText := true, laidKinds := [.data, .data, .data, .data, .sentinel, .sentinel, .sentinel, .sentinel, .sentinel, .sentinel, .sentinel, .sentinel, .sentinel, .sentinel, .pinned], laidTests := true, laidLooks := .later }
def BalanceOverCardSaid : Prop := Claim7.holds Tryz.pinned (.plain (OpenSpec.ofChange balanceOverSpec)) balanceOverCard

/-- THE TIED CARD OF 'levelhandlaw3.BalanceStays'. -/
def balanceStaysCard : Claim7 := { stood := { row := balanceStaysRow, standIns := [], harness := (true, "fc01517e5dfe4fc7c5a2a89bfa702f8bceeed387e31b558d6d735a27e8b2733c"), looks := true }, kinds := [], alts := [], laidByText := true, laidKinds := [.data, .data, .data, .data, .sentinel, .sentinel, .sentinel, .sentinel, .sentinel, .sentinel, .sentinel, .sentinel, .sentinel, .sentinel, .pinned], laidTests := true, laidLooks := .later }
def BalanceStaysCardSaid : Prop := Claim7.holds Tryz.pinned (.plain (OpenSpec.ofChange balanceStaysSpec)) balanceStaysCard

/-- THE TIED CARD OF 'levelhandlaw3.PlayAgain'. -/
def playAgainCard : Claim7 := { stood := { row := playAgainRow, standIns := [], harness := (true, "fc01517e5dfe4fc7c5a2a89bfa702f8bceeed387e31b558d6d735a27e8b2733c"), looks := true }, kinds := [], alts := [], laidByText := true, laidKinds := [.data, .data, .data, .data, .handle, .sentinel, .sentinel, .sentinel, .sentinel, .sentinel, .sentinel, .sentinel, .sentinel, .sentinel, .sentinel, .sentinel, .pinned], laidTests := true, laidLooks := .later }
def PlayAgainCardSaid : Prop := Claim7.holds Tryz.pinned (.plain (OpenSpec.ofChange playAgainSpec)) playAgainCard

/-- THE TIED CARD OF 'levelhandlaw3.PlayRuns'. -/
def playRunsCard : Claim7 := { stood := { row := playRunsRow, standIns := [], harness := (true, "fc01517e5dfe4fc7c5a2a89bfa702f8bceeed387e31b558d6d735a27e8b2733c"), looks := true }, kinds := [], alts := [], laidByText := true, laidKinds := [.data, .data, .data, .data, .handle, .sentinel, .sentinel, .sentinel, .sentinel, .sentinel, .sentinel, .sentinel, .sentinel, .sentinel, .sentinel, .sentinel, .pinned], laidTests := true, laidLooks := .later }
def PlayRunsCardSaid : Prop := Claim7.holds Tryz.pinned (.plain (OpenSpec.ofChange playRunsSpec)) playRunsCard

/-- THE TIED CARD OF 'levelhandlaw3.PlaySpread'. -/
def playSpreadCard : Claim7 := { stood := { row := playSpreadRow, standIns := [], harness := (true, "fc01517e5dfe4fc7c5a2a89bfa702f8bceeed387e31b558d6d735a27e8b2733c"), looks := true }, kinds := [], alts := [], laidByText := true, laidKinds := [.data, .data, .data, .data, .handle, .sentinel, .sentinel, .sentinel, .sentinel, .sentinel, .sentinel, .sentinel, .sentinel, .sentinel, .sentinel, .sentinel, .pinned], laidTests := true, laidLooks := .later }
def PlaySpreadCardSaid : Prop := Claim7.holds Tryz.pinned (.plain (OpenSpec.ofChange playSpreadSpec)) playSpreadCard

/-- THE SECOND FORM's CARD OF 'levelhandlaw3.BalanceFalls'. -/
def balanceFallsUptoCard : Claim7 := { stood := { row := balanceFallsUptoRow, standIns := [], harness := (true, "fc01517e5dfe4fc7c5a2a89bfa702f8bceeed387e31b558d6d735a27e8b2733c"), looks := true }, kinds := [], alts := [], laidByText := true, laidKinds := [.sentinel, .sentinel, .sentinel, .sentinel, .sentinel, .sentinel], laidTests := true, laidLooks := .later }
def BalanceFallsUptoCardSaid : Prop := Claim7.holds Tryz.pinned (.plain (OpenSpec.upto balanceFallsSpec)) balanceFallsUptoCard

/-- THE SECOND FORM's CARD OF 'levelhandlaw3.BalanceOver'. -/
def balanceOverUptoCard : Claim7 := { stood := { row := balanceOverUptoRow, standIns := [], harness := (true, "fc01517e5dfe4fc7c5a2a89bfa702f8bceeed387e31b558d6d735a27e8b2733c"), looks := true }, kinds := [], alts := [], laidByText := true, laidKinds := [.data, .data, .data, .data, .sentinel, .sentinel, .sentinel, .sentinel, .sentinel, .sentinel, .sentinel, .sentinel, .sentinel, .sentinel, .pinned], laidTests := true, laidLooks := .later }
def BalanceOverUptoCardSaid : Prop := Claim7.holds Tryz.pinned (.plain (OpenSpec.upto balanceOverSpec)) balanceOverUptoCard

/-- THE SECOND FORM's CARD OF 'levelhandlaw3.BalanceStays'. -/
def balanceStaysUptoCard : Claim7 := { stood := { row := balanceStaysUptoRow, standIns := [], harness := (true, "fc01517e5dfe4fc7c5a2a89bfa702f8bceeed387e31b558d6d735a27e8b2733c"), looks := true }, kinds := [], alts := [], laidByText := true, laidKinds := [.data, .data, .data, .data, .sentinel, .sentinel, .sentinel, .sentinel, .sentinel, .sentinel, .sentinel, .sentinel, .sentinel, .sentinel, .pinned], laidTests := true, laidLooks := .later }
def BalanceStaysUptoCardSaid : Prop := Claim7.holds Tryz.pinned (.plain (OpenSpec.upto balanceStaysSpec)) balanceStaysUptoCard

/-- THE SECOND FORM's CARD OF 'levelhandlaw3.PlayAgain'. -/
def playAgainUptoCard : Claim7 := { stood := { row := playAgainUptoRow, standIns := [], harness := (true, "fc01517e5dfe4fc7c5a2a89bfa702f8bceeed387e31b558d6d735a27e8b2733c"), looks := true }, kinds := [], alts := [], laidByText := true, laidKinds := [.data, .data, .data, .data, .handle, .sentinel, .sentinel, .sentinel, .sentinel, .sentinel, .sentinel, .sentinel, .sentinel, .sentinel, .sentinel, .sentinel, .pinned], laidTests := true, laidLooks := .later }
def PlayAgainUptoCardSaid : Prop := Claim7.holds Tryz.pinned (.plain (OpenSpec.upto playAgainSpec)) playAgainUptoCard

/-- THE SECOND FORM's CARD OF 'levelhandlaw3.PlayRuns'. -/
def playRunsUptoCard : Claim7 := { stood := { row := playRunsUptoRow, standIns := [], harness := (true, "fc01517e5dfe4fc7c5a2a89bfa702f8bceeed387e31b558d6d735a27e8b2733c"), looks := true }, kinds := [], alts := [], laidByText := true, laidKinds := [.data, .data, .data, .data, .handle, .sentinel, .sentinel, .sentinel, .sentinel, .sentinel, .sentinel, .sentinel, .sentinel, .sentinel, .sentinel, .sentinel, .pinned], laidTests := true, laidLooks := .later }
def PlayRunsUptoCardSaid : Prop := Claim7.holds Tryz.pinned (.plain (OpenSpec.upto playRunsSpec)) playRunsUptoCard

/-- THE SECOND FORM's CARD OF 'levelhandlaw3.PlaySpread'. -/
def playSpreadUptoCard : Claim7 := { stood := { row := playSpreadUptoRow, standIns := [], harness := (true, "fc01517e5dfe4fc7c5a2a89bfa702f8bceeed387e31b558d6d735a27e8b2733c"), looks := true }, kinds := [], alts := [], laidByText := true, laidKinds := [.data, .data, .data, .data, .handle, .sentinel, .sentinel, .sentinel, .sentinel, .sentinel, .sentinel, .sentinel, .sentinel, .sentinel, .sentinel, .sentinel, .pinned], laidTests := true, laidLooks := .later }
def PlaySpreadUptoCardSaid : Prop := Claim7.holds Tryz.pinned (.plain (OpenSpec.upto playSpreadSpec)) playSpreadUptoCard
end Rows
end Go.Proofs.YteilefpjfbholaaGreatDoor
