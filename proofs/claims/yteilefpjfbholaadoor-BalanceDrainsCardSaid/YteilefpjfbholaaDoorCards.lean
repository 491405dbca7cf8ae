/-
  DERIVED. GIVEN WITH THE SEED: THE CARDS: each row of YteilefpjfbholaaDoorRows.lean that lists a variable, with what it lists TIED to the program's text (the seventh form; the later family's looks); each row that meets fmt, with fmt's text TOLD by the authors' own Lean function (tested against real Go, not proved from fmt's source: count such statements apart). THE CARD IS WHAT COUNTS. Prove the row's statement (the work); the ties are given (YteilefpjfbholaaDoorTie.lean); close each card by the builder's one call (the guide's Derived/Test/ToyasCard.lean, 'card_holds'). Laid BY PROGRAM, IN A SANDBOX (cutbox-door.mjs). By AI agents, Wed Nov 11 2026. No macro, syntax, notation, axiom, sorry.
-/
import Derived.Test.YteilefpjfbholaaDoorRows
import GoSem.ClaimSeven
namespace Go.Proofs.YteilefpjfbholaaDoor
namespace Rows

/-- THE TIED CARD OF 'levelhandlaw3.BalanceDrains'. -/
def balanceDrainsCard : Claim7 := { stood := { row := balanceDrainsRow, standIns := [], harness := (true, "1ad94f96f4b334f67457af65f9fd2b8bac7281c02349424ab382812e44051a17"), looks := false }, kinds := [], alts := [], laidByText := true, laidKinds := [.sentinel, .sentinel, .sentinel, .sentinel, .sentinel, .sentinel], laidTests := true, laidLooks := .later }
def BalanceDrainsCardSaid : Prop := Claim7.holds Tryd.pinned (.plain (OpenSpec.ofChange balanceDrainsSpec)) balanceDrainsCard

/-- THE SECOND FORM's CARD OF 'levelhandlaw3.BalanceDrains'. -/
def balanceDrainsUptoCard : Claim7 := { stood := { row := balanceDrainsUptoRow, standIns := [], harness := (true, "1ad94f96f4b334f67457af65f9fd2b8bac7281c02349424ab382812e44051a17"), looks := false }, kinds := [], alts := [], laidByText := true, laidKinds := [.sentinel, .sentinel, .sentinel, .sentinel, .sentinel, .sentinel], laidTests := true, laidLooks := .later }
def BalanceDrainsUptoCardSaid : Prop := Claim7.holds Tryd.pinned (.plain (OpenSpec.upto balanceDrainsSpec)) balanceDrainsUptoCard
end Rows
end Go.Proofs.YteilefpjfbholaaDoor
