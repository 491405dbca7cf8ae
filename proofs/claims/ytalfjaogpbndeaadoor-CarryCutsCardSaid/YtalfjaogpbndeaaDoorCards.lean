/-
  DERIVED. GIVEN WITH THE SEED: THE CARDS: each row of YtalfjaogpbndeaaDoorRows.lean that lists a variable, with what it lists TIED to the program's text (the seventh form; the later family's looks); each row that meets fmt, with fmt's text TOLD by the authors' own Lean function (tested against real Go, not proved from fmt's source: count such statements apart). THE CARD IS WHAT COUNTS. Prove the row's statement (the work); the ties are given (YtalfjaogpbndeaaDoorTie.lean); close each card by the builder's one call (the guide's Derived/Test/ToyasCard.lean, 'card_holds'). Laid BY PROGRAM, IN A SANDBOX (cutbox-door.mjs). By AI agents, Wed Nov 11 2026. No macro, syntax, notation, axiom, sorry.
-/
import Derived.Test.YtalfjaogpbndeaaDoorRows
import GoSem.ClaimSeven
namespace Go.Proofs.YtalfjaogpbndeaaDoor
namespace Rows

/-- THE TIED CARD OF 'levelhandlaw2.FlowsActs'. -/
def flowsActsCard : Claim7 := { stood := { row := flowsActsRow, standIns := [], harness := (true, "ea3cd1e2e622fe061b51da344b6022ac73245cb7bcb8b2ec058bf8e111519f17"), looks := true }, kinds := [], alts := [], laidByText := true, laidKinds := [.handle, .sentinel, .sentinel, .sentinel, .sentinel, .sentinel, .sentinel, .sentinel, .sentinel, .sentinel], laidTests := true, laidLooks := .later }
def FlowsActsCardSaid : Prop := Claim7.holds Tryd.pinned (.plain (OpenSpec.ofChange flowsActsSpec)) flowsActsCard

/-- THE TIED CARD OF 'levelhandlaw2.CarryCuts'. -/
def carryCutsCard : Claim7 := { stood := { row := carryCutsRow, standIns := [], harness := (true, "ea3cd1e2e622fe061b51da344b6022ac73245cb7bcb8b2ec058bf8e111519f17"), looks := true }, kinds := [], alts := [], laidByText := true, laidKinds := [.data, .data, .data, .data, .sentinel, .sentinel, .sentinel, .sentinel, .sentinel, .sentinel, .sentinel, .pinned], laidTests := true, laidLooks := .later }
def CarryCutsCardSaid : Prop := Claim7.holds Tryd.pinned (.plain (OpenSpec.ofChange carryCutsSpec)) carryCutsCard

/-- THE SECOND FORM's CARD OF 'levelhandlaw2.FlowsActs'. -/
def flowsActsUptoCard : Claim7 := { stood := { row := flowsActsUptoRow, standIns := [], harness := (true, "ea3cd1e2e622fe061b51da344b6022ac73245cb7bcb8b2ec058bf8e111519f17"), looks := true }, kinds := [], alts := [], laidByText := true, laidKinds := [.handle, .sentinel, .sentinel, .sentinel, .sentinel, .sentinel, .sentinel, .sentinel, .sentinel, .sentinel], laidTests := true, laidLooks := .later }
def FlowsActsUptoCardSaid : Prop := Claim7.holds Tryd.pinned (.plain (OpenSpec.upto flowsActsSpec)) flowsActsUptoCard

/-- THE SECOND FORM's CARD OF 'levelhandlaw2.CarryCuts'. -/
def carryCutsUptoCard : Claim7 := { stood := { row := carryCutsUptoRow, standIns := [], harness := (true, "ea3cd1e2e622fe061b51da344b6022ac73245cb7bcb8b2ec058bf8e111519f17"), looks := true }, kinds := [], alts := [], laidByText := true, laidKinds := [.data, .data, .data, .data, .sentinel, .sentinel, .sentinel, .sentinel, .sentinel, .sentinel, .sentinel, .pinned], laidTests := true, laidLooks := .later }
def CarryCutsUptoCardSaid : Prop := Claim7.holds Tryd.pinned (.plain (OpenSpec.upto carryCutsSpec)) carryCutsUptoCard
end Rows
end Go.Proofs.YtalfjaogpbndeaaDoor
