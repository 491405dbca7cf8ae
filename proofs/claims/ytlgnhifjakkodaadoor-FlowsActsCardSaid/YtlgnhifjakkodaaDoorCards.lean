/-
  DERIVED. GIVEN WITH THE SEED: THE CARDS: each row of YtlgnhifjakkodaaDoorRows.lean that lists a variable, with what it lists TIED to the program's text (the seventh form; the later family's looks); each row that meets fmt, with fmt's text TOLD by the authors' own Lean function (tested against real Go, not proved from fmt's source: count such statements apart). THE CARD IS WHAT COUNTS. Prove the row's statement (the work); the ties are given (YtlgnhifjakkodaaDoorTie.lean); close each card by the builder's one call (the guide's Derived/Test/ToyasCard.lean, 'card_holds'). Laid BY PROGRAM, IN A SANDBOX (cutbox-door.mjs). By AI agents, Wed Nov 11 2026. No macro, syntax, notation, axiom, sorry.
-/
import Derived.Test.YtlgnhifjakkodaaDoorRows
import GoSem.ClaimSeven
namespace Go.Proofs.YtlgnhifjakkodaaDoor
namespace Rows

/-- THE TIED CARD OF 'levelhandlaw2.FlowsStay'. -/
def flowsStayCard : Claim7 := { stood := { row := flowsStayRow, standIns := [], harness := (true, "c32d7c2c3e78a0cef0c494ab75339e05d79fc58358bcb3da8ffcfd468eb22f2f"), looks := true }, kinds := [], alts := [], laidByText := true, laidKinds := [.sentinel, .sentinel, .sentinel], laidTests := true, laidLooks := .later }
def FlowsStayCardSaid : Prop := Claim7.holds Tryd.pinned (.plain (OpenSpec.ofChange flowsStaySpec)) flowsStayCard

/-- THE TIED CARD OF 'levelhandlaw2.FlowsActs'. -/
def flowsActsCard : Claim7 := { stood := { row := flowsActsRow, standIns := [], harness := (true, "c32d7c2c3e78a0cef0c494ab75339e05d79fc58358bcb3da8ffcfd468eb22f2f"), looks := true }, kinds := [], alts := [], laidByText := true, laidKinds := [.handle, .sentinel, .sentinel, .sentinel, .sentinel, .sentinel, .sentinel, .sentinel, .sentinel, .sentinel], laidTests := true, laidLooks := .later }
def FlowsActsCardSaid : Prop := Claim7.holds Tryd.pinned (.plain (OpenSpec.ofChange flowsActsSpec)) flowsActsCard

/-- THE SECOND FORM's CARD OF 'levelhandlaw2.FlowsStay'. -/
def flowsStayUptoCard : Claim7 := { stood := { row := flowsStayUptoRow, standIns := [], harness := (true, "c32d7c2c3e78a0cef0c494ab75339e05d79fc58358bcb3da8ffcfd468eb22f2f"), looks := true }, kinds := [], alts := [], laidByText := true, laidKinds := [.sentinel, .sentinel, .sentinel], laidTests := true, laidLooks := .later }
def FlowsStayUptoCardSaid : Prop := Claim7.holds Tryd.pinned (.plain (OpenSpec.upto flowsStaySpec)) flowsStayUptoCard

/-- THE SECOND FORM's CARD OF 'levelhandlaw2.FlowsActs'. -/
def flowsActsUptoCard : Claim7 := { stood := { row := flowsActsUptoRow, standIns := [], harness := (true, "c32d7c2c3e78a0cef0c494ab75339e05d79fc58358bcb3da8ffcfd468eb22f2f"), looks := true }, kinds := [], alts := [], laidByText := true, laidKinds := [.handle, .sentinel, .sentinel, .sentinel, .sentinel, .sentinel, .sentinel, .sentinel, .sentinel, .sentinel], laidTests := true, laidLooks := .later }
def FlowsActsUptoCardSaid : Prop := Claim7.holds Tryd.pinned (.plain (OpenSpec.upto flowsActsSpec)) flowsActsUptoCard
end Rows
end Go.Proofs.YtlgnhifjakkodaaDoor
