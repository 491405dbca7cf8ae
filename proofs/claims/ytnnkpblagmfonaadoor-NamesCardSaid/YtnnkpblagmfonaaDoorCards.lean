/-
  DERIVED. GIVEN WITH THE SEED: THE CARDS: each row of YtnnkpblagmfonaaDoorRows.lean that lists a variable, with what it lists TIED to the program's text (the seventh form; the later family's looks); each row that meets fmt, with fmt's text TOLD by the authors' own Lean function (tested against real Go, not proved from fmt's source: count such statements apart). THE CARD IS WHAT COUNTS. Prove the row's statement (the work); the ties are given (YtnnkpblagmfonaaDoorTie.lean); close each card by the builder's one call (the guide's Derived/Test/ToyasCard.lean, 'card_holds'). Laid BY PROGRAM, IN A SANDBOX (cutbox-door.mjs). By AI agents, Wed Nov 11 2026. No macro, syntax, notation, axiom, sorry.
-/
import Derived.Test.YtnnkpblagmfonaaDoorRows
import GoSem.ClaimSeven
namespace Go.Proofs.YtnnkpblagmfonaaDoor
namespace Rows

/-- THE TIED CARD OF 'levelhandlaw1.JumpGrows'. -/
def jumpGrowsCard : Claim7 := { stood := { row := jumpGrowsRow, standIns := [], harness := (true, "0afa80cbfda2595dd89073091fc928afbaa6041a5da763fd27c2c2c1864b309a"), looks := true }, kinds := [], alts := [], laidByText := true, laidKinds := [.sentinel], laidTests := true, laidLooks := .later }
def JumpGrowsCardSaid : Prop := Claim7.holds Tryd.pinned (.plain (OpenSpec.ofChange jumpGrowsSpec)) jumpGrowsCard

/-- THE TIED CARD OF 'levelhandlaw1.JumpPaths'. -/
def jumpPathsCard : Claim7 := { stood := { row := jumpPathsRow, standIns := [], harness := (true, "0afa80cbfda2595dd89073091fc928afbaa6041a5da763fd27c2c2c1864b309a"), looks := true }, kinds := [], alts := [], laidByText := true, laidKinds := [.sentinel], laidTests := true, laidLooks := .later }
def JumpPathsCardSaid : Prop := Claim7.holds Tryd.pinned (.plain (OpenSpec.ofChange jumpPathsSpec)) jumpPathsCard

/-- THE TIED CARD OF 'levelhandlaw1.MixBack'. -/
def mixBackCard : Claim7 := { stood := { row := mixBackRow, standIns := [], harness := (true, "0afa80cbfda2595dd89073091fc928afbaa6041a5da763fd27c2c2c1864b309a"), looks := true }, kinds := [], alts := [], laidByText := true, laidKinds := [.sentinel, .sentinel, .sentinel], laidTests := true, laidLooks := .later }
def MixBackCardSaid : Prop := Claim7.holds Tryd.pinned (.plain (OpenSpec.ofChange mixBackSpec)) mixBackCard

/-- THE TIED CARD OF 'levelhandlaw2.HealthEdges'. -/
def healthEdgesCard : Claim7 := { stood := { row := healthEdgesRow, standIns := [], harness := (true, "0afa80cbfda2595dd89073091fc928afbaa6041a5da763fd27c2c2c1864b309a"), looks := true }, kinds := [], alts := [], laidByText := true, laidKinds := [.sentinel, .sentinel, .sentinel, .sentinel], laidTests := true, laidLooks := .later }
def HealthEdgesCardSaid : Prop := Claim7.holds Tryd.pinned (.plain (OpenSpec.ofChange healthEdgesSpec)) healthEdgesCard

/-- THE TIED CARD OF 'levelhandlaw1.Names'. -/
def namesCard : Claim7 := { stood := { row := namesRow, standIns := [], harness := (true, "0afa80cbfda2595dd89073091fc928afbaa6041a5da763fd27c2c2c1864b309a"), looks := true }, kinds := [], alts := [], laidByText := true, laidKinds := [.handle, .sentinel, .sentinel, .sentinel, .sentinel, .sentinel, .sentinel, .sentinel, .sentinel, .sentinel], laidTests := true, laidLooks := .later }
def NamesCardSaid : Prop := Claim7.holds Tryd.pinned (.plain (OpenSpec.ofChange namesSpec)) namesCard

/-- THE TIED CARD OF 'levelhandlaw1.JumpBuckets'. -/
def jumpBucketsCard : Claim7 := { stood := { row := jumpBucketsRow, standIns := [], harness := (true, "0afa80cbfda2595dd89073091fc928afbaa6041a5da763fd27c2c2c1864b309a"), looks := true }, kinds := [], alts := [], laidByText := true, laidKinds := [.handle, .sentinel, .sentinel, .sentinel, .sentinel, .sentinel, .sentinel, .sentinel, .sentinel, .sentinel], laidTests := true, laidLooks := .later }
def JumpBucketsCardSaid : Prop := Claim7.holds Tryd.pinned (.plain (OpenSpec.ofChange jumpBucketsSpec)) jumpBucketsCard

/-- THE TIED CARD OF 'levelhandlaw2.HealthActs'. -/
def healthActsCard : Claim7 := { stood := { row := healthActsRow, standIns := [], harness := (true, "0afa80cbfda2595dd89073091fc928afbaa6041a5da763fd27c2c2c1864b309a"), looks := true }, kinds := [], alts := [], laidByText := true, laidKinds := [.handle, .sentinel, .sentinel, .sentinel, .sentinel, .sentinel, .sentinel, .sentinel, .sentinel, .sentinel], laidTests := true, laidLooks := .later }
def HealthActsCardSaid : Prop := Claim7.holds Tryd.pinned (.plain (OpenSpec.ofChange healthActsSpec)) healthActsCard

/-- THE TIED CARD OF 'levelhandlaw1.RingGoes'. -/
def ringGoesCard : Claim7 := { stood := { row := ringGoesRow, standIns := [], harness := (true, "0afa80cbfda2595dd89073091fc928afbaa6041a5da763fd27c2c2c1864b309a"), looks := true }, kinds := [], alts := [], laidByText := true, laidKinds := [.sentinel, .sentinel, .sentinel, .sentinel], laidTests := true, laidLooks := .later }
def RingGoesCardSaid : Prop := Claim7.holds Tryd.pinned (.plain (OpenSpec.ofChange ringGoesSpec)) ringGoesCard

/-- THE TIED CARD OF 'levelhandlaw1.RingComes'. -/
def ringComesCard : Claim7 := { stood := { row := ringComesRow, standIns := [], harness := (true, "0afa80cbfda2595dd89073091fc928afbaa6041a5da763fd27c2c2c1864b309a"), looks := true }, kinds := [], alts := [], laidByText := true, laidKinds := [.sentinel, .sentinel, .sentinel, .sentinel], laidTests := true, laidLooks := .later }
def RingComesCardSaid : Prop := Claim7.holds Tryd.pinned (.plain (OpenSpec.ofChange ringComesSpec)) ringComesCard

/-- THE TIED CARD OF 'levelhandlaw2.FlowsStay'. -/
def flowsStayCard : Claim7 := { stood := { row := flowsStayRow, standIns := [], harness := (true, "0afa80cbfda2595dd89073091fc928afbaa6041a5da763fd27c2c2c1864b309a"), looks := true }, kinds := [], alts := [], laidByText := true, laidKinds := [.sentinel, .sentinel, .sentinel], laidTests := true, laidLooks := .later }
def FlowsStayCardSaid : Prop := Claim7.holds Tryd.pinned (.plain (OpenSpec.ofChange flowsStaySpec)) flowsStayCard

/-- THE TIED CARD OF 'levelhandlaw1.FillCaps'. -/
def fillCapsCard : Claim7 := { stood := { row := fillCapsRow, standIns := [], harness := (true, "0afa80cbfda2595dd89073091fc928afbaa6041a5da763fd27c2c2c1864b309a"), looks := true }, kinds := [], alts := [], laidByText := true, laidKinds := [.sentinel, .sentinel, .sentinel, .sentinel], laidTests := true, laidLooks := .later }
def FillCapsCardSaid : Prop := Claim7.holds Tryd.pinned (.plain (OpenSpec.ofChange fillCapsSpec)) fillCapsCard

/-- THE SECOND FORM's CARD OF 'levelhandlaw1.JumpGrows'. -/
def jumpGrowsUptoCard : Claim7 := { stood := { row := jumpGrowsUptoRow, standIns := [], harness := (true, "0afa80cbfda2595dd89073091fc928afbaa6041a5da763fd27c2c2c1864b309a"), looks := true }, kinds := [], alts := [], laidByText := true, laidKinds := [.sentinel], laidTests := true, laidLooks := .later }
def JumpGrowsUptoCardSaid : Prop := Claim7.holds Tryd.pinned (.plain (OpenSpec.upto jumpGrowsSpec)) jumpGrowsUptoCard

/-- THE SECOND FORM's CARD OF 'levelhandlaw1.JumpPaths'. -/
def jumpPathsUptoCard : Claim7 := { stood := { row := jumpPathsUptoRow, standIns := [], harness := (true, "0afa80cbfda2595dd89073091fc928afbaa6041a5da763fd27c2c2c1864b309a"), looks := true }, kinds := [], alts := [], laidByText := true, laidKinds := [.sentinel], laidTests := true, laidLooks := .later }
def JumpPathsUptoCardSaid : Prop := Claim7.holds Tryd.pinned (.plain (OpenSpec.upto jumpPathsSpec)) jumpPathsUptoCard

/-- THE SECOND FORM's CARD OF 'levelhandlaw1.MixBack'. -/
def mixBackUptoCard : Claim7 := { stood := { row := mixBackUptoRow, standIns := [], harness := (true, "0afa80cbfda2595dd89073091fc928afbaa6041a5da763fd27c2c2c1864b309a"), looks := true }, kinds := [], alts := [], laidByText := true, laidKinds := [.sentinel, .sentinel, .sentinel], laidTests := true, laidLooks := .later }
def MixBackUptoCardSaid : Prop := Claim7.holds Tryd.pinned (.plain (OpenSpec.upto mixBackSpec)) mixBackUptoCard

/-- THE SECOND FORM's CARD OF 'levelhandlaw2.HealthEdges'. -/
def healthEdgesUptoCard : Claim7 := { stood := { row := healthEdgesUptoRow, standIns := [], harness := (true, "0afa80cbfda2595dd89073091fc928afbaa6041a5da763fd27c2c2c1864b309a"), looks := true }, kinds := [], alts := [], laidByText := true, laidKinds := [.sentinel, .sentinel, .sentinel, .sentinel], laidTests := true, laidLooks := .later }
def HealthEdgesUptoCardSaid : Prop := Claim7.holds Tryd.pinned (.plain (OpenSpec.upto healthEdgesSpec)) healthEdgesUptoCard

/-- THE SECOND FORM's CARD OF 'levelhandlaw1.Names'. -/
def namesUptoCard : Claim7 := { stood := { row := namesUptoRow, standIns := [], harness := (true, "0afa80cbfda2595dd89073091fc928afbaa6041a5da763fd27c2c2c1864b309a"), looks := true }, kinds := [], alts := [], laidByText := true, laidKinds := [.handle, .sentinel, .sentinel, .sentinel, .sentinel, .sentinel, .sentinel, .sentinel, .sentinel, .sentinel], laidTests := true, laidLooks := .later }
def NamesUptoCardSaid : Prop := Claim7.holds Tryd.pinned (.plain (OpenSpec.upto namesSpec)) namesUptoCard

/-- THE SECOND FORM's CARD OF 'levelhandlaw1.JumpBuckets'. -/
def jumpBucketsUptoCard : Claim7 := { stood := { row := jumpBucketsUptoRow, standIns := [], harness := (true, "0afa80cbfda2595dd89073091fc928afbaa6041a5da763fd27c2c2c1864b309a"), looks := true }, kinds := [], alts := [], laidByText := true, laidKinds := [.handle, .sentinel, .sentinel, .sentinel, .sentinel, .sentinel, .sentinel, .sentinel, .sentinel, .sentinel], laidTests := true, laidLooks := .later }
def JumpBucketsUptoCardSaid : Prop := Claim7.holds Tryd.pinned (.plain (OpenSpec.upto jumpBucketsSpec)) jumpBucketsUptoCard

/-- THE SECOND FORM's CARD OF 'levelhandlaw2.HealthActs'. -/
def healthActsUptoCard : Claim7 := { stood := { row := healthActsUptoRow, standIns := [], harness := (true, "0afa80cbfda2595dd89073091fc928afbaa6041a5da763fd27c2c2c1864b309a"), looks := true }, kinds := [], alts := [], laidByText := true, laidKinds := [.handle, .sentinel, .sentinel, .sentinel, .sentinel, .sentinel, .sentinel, .sentinel, .sentinel, .sentinel], laidTests := true, laidLooks := .later }
def HealthActsUptoCardSaid : Prop := Claim7.holds Tryd.pinned (.plain (OpenSpec.upto healthActsSpec)) healthActsUptoCard

/-- THE SECOND FORM's CARD OF 'levelhandlaw1.RingGoes'. -/
def ringGoesUptoCard : Claim7 := { stood := { row := ringGoesUptoRow, standIns := [], harness := (true, "0afa80cbfda2595dd89073091fc928afbaa6041a5da763fd27c2c2c1864b309a"), looks := true }, kinds := [], alts := [], laidByText := true, laidKinds := [.sentinel, .sentinel, .sentinel, .sentinel], laidTests := true, laidLooks := .later }
def RingGoesUptoCardSaid : Prop := Claim7.holds Tryd.pinned (.plain (OpenSpec.upto ringGoesSpec)) ringGoesUptoCard

/-- THE SECOND FORM's CARD OF 'levelhandlaw1.RingComes'. -/
def ringComesUptoCard : Claim7 := { stood := { row := ringComesUptoRow, standIns := [], harness := (true, "0afa80cbfda2595dd89073091fc928afbaa6041a5da763fd27c2c2c1864b309a"), looks := true }, kinds := [], alts := [], laidByText := true, laidKinds := [.sentinel, .sentinel, .sentinel, .sentinel], laidTests := true, laidLooks := .later }
def RingComesUptoCardSaid : Prop := Claim7.holds Tryd.pinned (.plain (OpenSpec.upto ringComesSpec)) ringComesUptoCard

/-- THE SECOND FORM's CARD OF 'levelhandlaw2.FlowsStay'. -/
def flowsStayUptoCard : Claim7 := { stood := { row := flowsStayUptoRow, standIns := [], harness := (true, "0afa80cbfda2595dd89073091fc928afbaa6041a5da763fd27c2c2c1864b309a"), looks := true }, kinds := [], alts := [], laidByText := true, laidKinds := [.sentinel, .sentinel, .sentinel], laidTests := true, laidLooks := .later }
def FlowsStayUptoCardSaid : Prop := Claim7.holds Tryd.pinned (.plain (OpenSpec.upto flowsStaySpec)) flowsStayUptoCard

/-- THE SECOND FORM's CARD OF 'levelhandlaw1.FillCaps'. -/
def fillCapsUptoCard : Claim7 := { stood := { row := fillCapsUptoRow, standIns := [], harness := (true, "0afa80cbfda2595dd89073091fc928afbaa6041a5da763fd27c2c2c1864b309a"), looks := true }, kinds := [], alts := [], laidByText := true, laidKinds := [.sentinel, .sentinel, .sentinel, .sentinel], laidTests := true, laidLooks := .later }
def FillCapsUptoCardSaid : Prop := Claim7.holds Tryd.pinned (.plain (OpenSpec.upto fillCapsSpec)) fillCapsUptoCard
end Rows
end Go.Proofs.YtnnkpblagmfonaaDoor
