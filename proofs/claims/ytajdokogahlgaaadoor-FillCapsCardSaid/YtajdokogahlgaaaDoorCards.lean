/-
  DERIVED. GIVEN WITH THE SEED: THE CARDS: each row of YtajdokogahlgaaaDoorRows.lean that lists a variable, with what it lists TIED to the program's text (the seventh form; the later family's looks); each row that meets fmt, with fmt's text TOLD by the authors' own Lean function (tested against real Go, not proved from fmt's source: count such statements apart). THE CARD IS WHAT COUNTS. Prove the row's statement (the work); the ties are given (YtajdokogahlgaaaDoorTie.lean); close each card by the builder's one call (the guide's Derived/Test/ToyasCard.lean, 'card_holds'). Laid BY PROGRAM, IN A SANDBOX (cutbox-door.mjs). By AI agents, Wed Nov 11 2026. No macro, syntax, notation, axiom, sorry.
-/
import Derived.Test.YtajdokogahlgaaaDoorRows
import GoSem.ClaimSeven
namespace Go.Proofs.YtajdokogahlgaaaDoor
namespace Rows

/-- THE TIED CARD OF 'levelhandlaw1.JumpBuckets'. -/
def jumpBucketsCard : Claim7 := { stood := { row := jumpBucketsRow, standIns := [], harness := (true, "32b1dbf55af1ace31382c89fb1926c09786db3dbcced419fba086bcd496bfb71"), looks := true }, kinds := [], alts := [], laidByText := true, laidKinds := [.handle, .sentinel, .sentinel, .sentinel, .sentinel, .sentinel, .sentinel, .sentinel, .sentinel, .sentinel], laidTests := true, laidLooks := .later }
def JumpBucketsCardSaid : Prop := Claim7.holds Tryd.pinned (.plain (OpenSpec.ofChange jumpBucketsSpec)) jumpBucketsCard

/-- THE TIED CARD OF 'levelhandlaw2.HealthActs'. -/
def healthActsCard : Claim7 := { stood := { row := healthActsRow, standIns := [], harness := (true, "32b1dbf55af1ace31382c89fb1926c09786db3dbcced419fba086bcd496bfb71"), looks := true }, kinds := [], alts := [], laidByText := true, laidKinds := [.handle, .sentinel, .sentinel, .sentinel, .sentinel, .sentinel, .sentinel, .sentinel, .sentinel, .sentinel], laidTests := true, laidLooks := .later }
def HealthActsCardSaid : Prop := Claim7.holds Tryd.pinned (.plain (OpenSpec.ofChange healthActsSpec)) healthActsCard

/-- THE TIED CARD OF 'levelhandlaw1.RingGoes'. -/
def ringGoesCard : Claim7 := { stood := { row := ringGoesRow, standIns := [], harness := (true, "32b1dbf55af1ace31382c89fb1926c09786db3dbcced419fba086bcd496bfb71"), looks := true }, kinds := [], alts := [], laidByText := true, laidKinds := [.sentinel, .sentinel, .sentinel, .sentinel], laidTests := true, laidLooks := .later }
def RingGoesCardSaid : Prop := Claim7.holds Tryd.pinned (.plain (OpenSpec.ofChange ringGoesSpec)) ringGoesCard

/-- THE TIED CARD OF 'levelhandlaw1.RingComes'. -/
def ringComesCard : Claim7 := { stood := { row := ringComesRow, standIns := [], harness := (true, "32b1dbf55af1ace31382c89fb1926c09786db3dbcced419fba086bcd496bfb71"), looks := true }, kinds := [], alts := [], laidByText := true, laidKinds := [.sentinel, .sentinel, .sentinel, .sentinel], laidTests := true, laidLooks := .later }
def RingComesCardSaid : Prop := Claim7.holds Tryd.pinned (.plain (OpenSpec.ofChange ringComesSpec)) ringComesCard

/-- THE TIED CARD OF 'levelhandlaw2.FlowsStay'. -/
def flowsStayCard : Claim7 := { stood := { row := flowsStayRow, standIns := [], harness := (true, "32b1dbf55af1ace31382c89fb1926c09786db3dbcced419fba086bcd496bfb71"), looks := true }, kinds := [], alts := [], laidByText := true, laidKinds := [.sentinel, .sentinel, .sentinel], laidTests := true, laidLooks := .later }
def FlowsStayCardSaid : Prop := Claim7.holds Tryd.pinned (.plain (OpenSpec.ofChange flowsStaySpec)) flowsStayCard

/-- THE TIED CARD OF 'levelhandlaw1.FillCaps'. -/
def fillCapsCard : Claim7 := { stood := { row := fillCapsRow, standIns := [], harness := (true, "32b1dbf55af1ace31382c89fb1926c09786db3dbcced419fba086bcd496bfb71"), looks := true }, kinds := [], alts := [], laidByText := true, laidKinds := [.sentinel, .sentinel, .sentinel, .sentinel], laidTests := true, laidLooks := .later }
def FillCapsCardSaid : Prop := Claim7.holds Tryd.pinned (.plain (OpenSpec.ofChange fillCapsSpec)) fillCapsCard

/-- THE SECOND FORM's CARD OF 'levelhandlaw1.JumpBuckets'. -/
def jumpBucketsUptoCard : Claim7 := { stood := { row := jumpBucketsUptoRow, standIns := [], harness := (true, "32b1dbf55af1ace31382c89fb1926c09786db3dbcced419fba086bcd496bfb71"), looks := true }, kinds := [], alts := [], laidByText := true, laidKinds := [.handle, .sentinel, .sentinel, .sentinel, .sentinel, .sentinel, .sentinel, .sentinel, .sentinel, .sentinel], laidTests := true, laidLooks := .later }
def JumpBucketsUptoCardSaid : Prop := Claim7.holds Tryd.pinned (.plain (OpenSpec.upto jumpBucketsSpec)) jumpBucketsUptoCard

/-- THE SECOND FORM's CARD OF 'levelhandlaw2.HealthActs'. -/
def healthActsUptoCard : Claim7 := { stood := { row := healthActsUptoRow, standIns := [], harness := (true, "32b1dbf55af1ace31382c89fb1926c09786db3dbcced419fba086bcd496bfb71"), looks := true }, kinds := [], alts := [], laidByText := true, laidKinds := [.handle, .sentinel, .sentinel, .sentinel, .sentinel, .sentinel, .sentinel, .sentinel, .sentinel, .sentinel], laidTests := true, laidLooks := .later }
def HealthActsUptoCardSaid : Prop := Claim7.holds Tryd.pinned (.plain (OpenSpec.upto healthActsSpec)) healthActsUptoCard

/-- THE SECOND FORM's CARD OF 'levelhandlaw1.RingGoes'. -/
def ringGoesUptoCard : Claim7 := { stood := { row := ringGoesUptoRow, standIns := [], harness := (true, "32b1dbf55af1ace31382c89fb1926c09786db3dbcced419fba086bcd496bfb71"), looks := true }, kinds := [], alts := [], laidByText := true, laidKinds := [.sentinel, .sentinel, .sentinel, .sentinel], laidTests := true, laidLooks := .later }
def RingGoesUptoCardSaid : Prop := Claim7.holds Tryd.pinned (.plain (OpenSpec.upto ringGoesSpec)) ringGoesUptoCard

/-- THE SECOND FORM's CARD OF 'levelhandlaw1.RingComes'. -/
def ringComesUptoCard : Claim7 := { stood := { row := ringComesUptoRow, standIns := [], harness := (true, "32b1dbf55af1ace31382c89fb1926c09786db3dbcced419fba086bcd496bfb71"), looks := true }, kinds := [], alts := [], laidByText := true, laidKinds := [.sentinel, .sentinel, .sentinel, .sentinel], laidTests := true, laidLooks := .later }
def RingComesUptoCardSaid : Prop := Claim7.holds Tryd.pinned (.plain (OpenSpec.upto ringComesSpec)) ringComesUptoCard

/-- THE SECOND FORM's CARD OF 'levelhandlaw2.FlowsStay'. -/
def flowsStayUptoCard : Claim7 := { stood := { row := flowsStayUptoRow, standIns := [], harness := (true, "32b1dbf55af1ace31382c89fb1926c09786db3dbcced419fba086bcd496bfb71"), looks := true }, kinds := [], alts := [], laidByText := true, laidKinds := [.sentinel, .sentinel, .sentinel], laidTests := true, laidLooks := .later }
def FlowsStayUptoCardSaid : Prop := Claim7.holds Tryd.pinned (.plain (OpenSpec.upto flowsStaySpec)) flowsStayUptoCard

/-- THE SECOND FORM's CARD OF 'levelhandlaw1.FillCaps'. -/
def fillCapsUptoCard : Claim7 := { stood := { row := fillCapsUptoRow, standIns := [], harness := (true, "32b1dbf55af1ace31382c89fb1926c09786db3dbcced419fba086bcd496bfb71"), looks := true }, kinds := [], alts := [], laidByText := true, laidKinds := [.sentinel, .sentinel, .sentinel, .sentinel], laidTests := true, laidLooks := .later }
def FillCapsUptoCardSaid : Prop := Claim7.holds Tryd.pinned (.plain (OpenSpec.upto fillCapsSpec)) fillCapsUptoCard
end Rows
end Go.Proofs.YtajdokogahlgaaaDoor
