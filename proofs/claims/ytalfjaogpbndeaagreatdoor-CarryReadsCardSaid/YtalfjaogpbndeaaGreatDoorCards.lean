/-
  DERIVED. GIVEN WITH THE SEED: THE CARDS: each row of YtalfjaogpbndeaaGreatDoorRows.lean that lists a variable, with what it lists TIED to the program's text (the seventh form; the later family's looks); each row that meets fmt, with fmt's text TOLD by the authors' own Lean function (tested against real Go, not proved from fmt's source: count such statements apart). THE CARD IS WHAT COUNTS. Prove the row's statement (the work); the ties are given (YtalfjaogpbndeaaGreatDoorTie.lean); close each card by the builder's one call (the guide's Derived/Test/ToyasCard.lean, 'card_holds'). Laid BY PROGRAM, IN A SANDBOX (cutbox-door.mjs). By AI agents, Wed Nov 11 2026. No macro, syntax, notation, axiom, sorry.
-/
import Derived.Test.YtalfjaogpbndeaaGreatDoorRows
import GoSem.ClaimSeven
namespace Go.Proofs.YtalfjaogpbndeaaGreatDoor
namespace Rows

/-- THE TIED CARD OF 'levelhandlaw2.CarryTexts'. -/
def carryTextsCard : Claim7 := { stood := { row := carryTextsRow, standIns := [], harness := (true, "7d9f1d33ee0122f52954e36eb42f828b15354f354d0d762734e62136a3629cf9"), looks := true }, kinds := [], alts := [], laidByText := true, laidKinds := [.data, .data, .data, .data, .handle, .sentinel, .sentinel, .sentinel, .sentinel, .sentinel, .sentinel, .sentinel, .sentinel, .sentinel, .sentinel, .sentinel, .pinned], laidTests := true, laidLooks := .later }
def CarryTextsCardSaid : Prop := Claim7.holds Tryz.pinned (.plain (OpenSpec.ofChange carryTextsSpec)) carryTextsCard

/-- THE TIED CARD OF 'levelhandlaw2.CarryReads'. -/
def carryReadsCard : Claim7 := { stood := { row := carryReadsRow, standIns := [], harness := (true, "7d9f1d33ee0122f52954e36eb42f828b15354f354d0d762734e62136a3629cf9"), looks := true }, kinds := [], alts := [], laidByText := true, laidKinds := [.data, .data, .data, .data, .handle, .sentinel, .sentinel, .sentinel, .sentinel, .sentinel, .sentinel, .sentinel, .sentinel, .sentinel, .sentinel, .sentinel, .pinned], laidTests := true, laidLooks := .later }
def CarryReadsCardSaid : Prop := Claim7.holds Tryz.pinned (.plain (OpenSpec.ofChange carryReadsSpec)) carryReadsCard

/-- THE SECOND FORM's CARD OF 'levelhandlaw2.CarryTexts'. -/
def carryTextsUptoCard : Claim7 := { stood := { row := carryTextsUptoRow, standIns := [], harness := (true, "7d9f1d33ee0122f52954e36eb42f828b15354f354d0d762734e62136a3629cf9"), looks := true }, kinds := [], alts := [], laidByText := true, laidKinds := [.data, .data, .data, .data, .handle, .sentinel, .sentinel, .sentinel, .sentinel, .sentinel, .sentinel, .sentinel, .sentinel, .sentinel, .sentinel, .sentinel, .pinned], laidTests := true, laidLooks := .later }
def CarryTextsUptoCardSaid : Prop := Claim7.holds Tryz.pinned (.plain (OpenSpec.upto carryTextsSpec)) carryTextsUptoCard

/-- THE SECOND FORM's CARD OF 'levelhandlaw2.CarryReads'. -/
def carryReadsUptoCard : Claim7 := { stood := { row := carryReadsUptoRow, standIns := [], harness := (true, "7d9f1d33ee0122f52954e36eb42f828b15354f354d0d762734e62136a3629cf9"), looks := true }, kinds := [], alts := [], laidByText := true, laidKinds := [.data, .data, .data, .data, .handle, .sentinel, .sentinel, .sentinel, .sentinel, .sentinel, .sentinel, .sentinel, .sentinel, .sentinel, .sentinel, .sentinel, .pinned], laidTests := true, laidLooks := .later }
def CarryReadsUptoCardSaid : Prop := Claim7.holds Tryz.pinned (.plain (OpenSpec.upto carryReadsSpec)) carryReadsUptoCard
end Rows
end Go.Proofs.YtalfjaogpbndeaaGreatDoor
