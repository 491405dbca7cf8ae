/-
  DERIVED. GIVEN WITH THE SEED: THE CARDS: each row of YtnmkdmehljkedaaGreatDoorRows.lean that lists a variable, with what it lists TIED to the program's text (the seventh form; the later family's looks); each row that meets fmt, with fmt's text TOLD by the authors' own Lean function (tested against real Go, not proved from fmt's source: count such statements apart). THE CARD IS WHAT COUNTS. Prove the row's statement (the work); the ties are given (YtnmkdmehljkedaaGreatDoorTie.lean); close each card by the builder's one call (the guide's Derived/Test/ToyasCard.lean, 'card_holds'). Laid BY PROGRAM, IN A SANDBOX (cutbox-door.mjs). By AI agents, Wed Nov 11 2026. No macro, syntax, notation, axiom, sorry.
-/
import Derived.Test.YtnmkdmehljkedaaGreatDoorRows
import GoSem.ClaimSeven
namespace Go.Proofs.YtnmkdmehljkedaaGreatDoor
namespace Rows

/-- THE TIED CARD OF 'levelhandlaw3.BalanceFalls'. -/
def balanceFallsCard : Claim7 := { stood := { row := balanceFallsRow, standIns := [], harness := (true, "1b893c81740315972fd501e95b12579b1a8675cf7af28c8b426f6d538b8d5ba8"), looks := false }, kinds := [], alts := [], laidByText := true, laidKinds := [.sentinel, .sentinel, .sentinel, .sentinel, .sentinel, .sentinel], laidTests := true, laidLooks := .later }
def BalanceFallsCardSaid : Prop := Claim7.holds Tryz.pinned (.plain (OpenSpec.ofChange balanceFallsSpec)) balanceFallsCard

/-- THE SECOND FORM's CARD OF 'levelhandlaw3.BalanceFalls'. -/
def balanceFallsUptoCard : Claim7 := { stood := { row := balanceFallsUptoRow, standIns := [], harness := (true, "1b893c81740315972fd501e95b12579b1a8675cf7af28c8b426f6d538b8d5ba8"), looks := false }, kinds := [], alts := [], laidByText := true, laidKinds := [.sentinel, .sentinel, .sentinel, .sentinel, .sentinel, .sentinel], laidTests := true, laidLooks := .later }
def BalanceFallsUptoCardSaid : Prop := Claim7.holds Tryz.pinned (.plain (OpenSpec.upto balanceFallsSpec)) balanceFallsUptoCard
end Rows
end Go.Proofs.YtnmkdmehljkedaaGreatDoor
