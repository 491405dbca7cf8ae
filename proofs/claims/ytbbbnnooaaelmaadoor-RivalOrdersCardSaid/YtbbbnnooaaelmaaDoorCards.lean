/-
  DERIVED. GIVEN WITH THE SEED: THE CARDS: each row of YtbbbnnooaaelmaaDoorRows.lean that lists a variable, with what it lists TIED to the program's text (the seventh form; the later family's looks); each row that meets fmt, with fmt's text TOLD by the authors' own Lean function (tested against real Go, not proved from fmt's source: count such statements apart). THE CARD IS WHAT COUNTS. Prove the row's statement (the work); the ties are given (YtbbbnnooaaelmaaDoorTie.lean); close each card by the builder's one call (the guide's Derived/Test/ToyasCard.lean, 'card_holds'). Laid BY PROGRAM, IN A SANDBOX (cutbox-door.mjs). By AI agents, Wed Nov 11 2026. No macro, syntax, notation, axiom, sorry.
-/
import Derived.Test.YtbbbnnooaaelmaaDoorRows
import GoSem.ClaimSeven
namespace Go.Proofs.YtbbbnnooaaelmaaDoor
namespace Rows

/-- THE TIED CARD OF 'levelhandlaw1.TableEven'. -/
def tableEvenCard : Claim7 := { stood := { row := tableEvenRow, standIns := [], harness := (true, "5e31082f94a11e5354a51a07e874bd1622ca7f86d11ca2b5803acb5c6b2b500f"), looks := true }, kinds := [], alts := [], laidByText := true, laidKinds := [.sentinel, .sentinel, .sentinel, .sentinel, .sentinel], laidTests := true, laidLooks := .later }
def TableEvenCardSaid : Prop := Claim7.holds Tryd.pinned (.plain (OpenSpec.ofChange tableEvenSpec)) tableEvenCard

/-- THE TIED CARD OF 'levelhandlaw1.RivalGoes'. -/
def rivalGoesCard : Claim7 := { stood := { row := rivalGoesRow, standIns := [], harness := (true, "5e31082f94a11e5354a51a07e874bd1622ca7f86d11ca2b5803acb5c6b2b500f"), looks := true }, kinds := [], alts := [], laidByText := true, laidKinds := [.sentinel, .sentinel, .sentinel, .sentinel], laidTests := true, laidLooks := .later }
def RivalGoesCardSaid : Prop := Claim7.holds Tryd.pinned (.plain (OpenSpec.ofChange rivalGoesSpec)) rivalGoesCard

/-- THE TIED CARD OF 'levelhandlaw1.RivalComes'. -/
def rivalComesCard : Claim7 := { stood := { row := rivalComesRow, standIns := [], harness := (true, "5e31082f94a11e5354a51a07e874bd1622ca7f86d11ca2b5803acb5c6b2b500f"), looks := true }, kinds := [], alts := [], laidByText := true, laidKinds := [.sentinel, .sentinel, .sentinel, .sentinel], laidTests := true, laidLooks := .later }
def RivalComesCardSaid : Prop := Claim7.holds Tryd.pinned (.plain (OpenSpec.ofChange rivalComesSpec)) rivalComesCard

/-- THE TIED CARD OF 'levelhandlaw1.MixNumbers'. -/
def mixNumbersCard : Claim7 := { stood := { row := mixNumbersRow, standIns := [], harness := (true, "5e31082f94a11e5354a51a07e874bd1622ca7f86d11ca2b5803acb5c6b2b500f"), looks := true }, kinds := [], alts := [], laidByText := true, laidKinds := [.handle, .sentinel, .sentinel, .sentinel, .sentinel, .sentinel, .sentinel, .sentinel, .sentinel, .sentinel], laidTests := true, laidLooks := .later }
def MixNumbersCardSaid : Prop := Claim7.holds Tryd.pinned (.plain (OpenSpec.ofChange mixNumbersSpec)) mixNumbersCard

/-- THE TIED CARD OF 'levelhandlaw1.RingHosts'. -/
def ringHostsCard : Claim7 := { stood := { row := ringHostsRow, standIns := [], harness := (true, "5e31082f94a11e5354a51a07e874bd1622ca7f86d11ca2b5803acb5c6b2b500f"), looks := true }, kinds := [], alts := [], laidByText := true, laidKinds := [.handle, .sentinel, .sentinel, .sentinel, .sentinel, .sentinel, .sentinel, .sentinel, .sentinel, .sentinel], laidTests := true, laidLooks := .later }
def RingHostsCardSaid : Prop := Claim7.holds Tryd.pinned (.plain (OpenSpec.ofChange ringHostsSpec)) ringHostsCard

/-- THE TIED CARD OF 'levelhandlaw1.FillPlaces'. -/
def fillPlacesCard : Claim7 := { stood := { row := fillPlacesRow, standIns := [], harness := (true, "5e31082f94a11e5354a51a07e874bd1622ca7f86d11ca2b5803acb5c6b2b500f"), looks := true }, kinds := [], alts := [], laidByText := true, laidKinds := [.handle, .sentinel, .sentinel, .sentinel, .sentinel, .sentinel, .sentinel, .sentinel, .sentinel, .sentinel], laidTests := true, laidLooks := .later }
def FillPlacesCardSaid : Prop := Claim7.holds Tryd.pinned (.plain (OpenSpec.ofChange fillPlacesSpec)) fillPlacesCard

/-- THE TIED CARD OF 'levelhandlaw1.TableMakes'. -/
def tableMakesCard : Claim7 := { stood := { row := tableMakesRow, standIns := [], harness := (true, "5e31082f94a11e5354a51a07e874bd1622ca7f86d11ca2b5803acb5c6b2b500f"), looks := true }, kinds := [], alts := [], laidByText := true, laidKinds := [.handle, .sentinel, .sentinel, .sentinel, .sentinel, .sentinel, .sentinel, .sentinel, .sentinel, .sentinel], laidTests := true, laidLooks := .later }
def TableMakesCardSaid : Prop := Claim7.holds Tryd.pinned (.plain (OpenSpec.ofChange tableMakesSpec)) tableMakesCard

/-- THE TIED CARD OF 'levelhandlaw1.TableCounts'. -/
def tableCountsCard : Claim7 := { stood := { row := tableCountsRow, standIns := [], harness := (true, "5e31082f94a11e5354a51a07e874bd1622ca7f86d11ca2b5803acb5c6b2b500f"), looks := true }, kinds := [], alts := [], laidByText := true, laidKinds := [.handle, .sentinel, .sentinel, .sentinel, .sentinel, .sentinel, .sentinel, .sentinel, .sentinel, .sentinel], laidTests := true, laidLooks := .later }
def TableCountsCardSaid : Prop := Claim7.holds Tryd.pinned (.plain (OpenSpec.ofChange tableCountsSpec)) tableCountsCard

/-- THE TIED CARD OF 'levelhandlaw1.RivalOrders'. -/
def rivalOrdersCard : Claim7 := { stood := { row := rivalOrdersRow, standIns := [], harness := (true, "5e31082f94a11e5354a51a07e874bd1622ca7f86d11ca2b5803acb5c6b2b500f"), looks := true }, kinds := [], alts := [], laidByText := true, laidKinds := [.handle, .sentinel, .sentinel, .sentinel, .sentinel, .sentinel, .sentinel, .sentinel, .sentinel, .sentinel], laidTests := true, laidLooks := .later }
def RivalOrdersCardSaid : Prop := Claim7.holds Tryd.pinned (.plain (OpenSpec.ofChange rivalOrdersSpec)) rivalOrdersCard

/-- THE SECOND FORM's CARD OF 'levelhandlaw1.TableEven'. -/
def tableEvenUptoCard : Claim7 := { stood := { row := tableEvenUptoRow, standIns := [], harness := (true, "5e31082f94a11e5354a51a07e874bd1622ca7f86d11ca2b5803acb5c6b2b500f"), looks := true }, kinds := [], alts := [], laidByText := true, laidKinds := [.sentinel, .sentinel, .sentinel, .sentinel, .sentinel], laidTests := true, laidLooks := .later }
def TableEvenUptoCardSaid : Prop := Claim7.holds Tryd.pinned (.plain (OpenSpec.upto tableEvenSpec)) tableEvenUptoCard

/-- THE SECOND FORM's CARD OF 'levelhandlaw1.RivalGoes'. -/
def rivalGoesUptoCard : Claim7 := { stood := { row := rivalGoesUptoRow, standIns := [], harness := (true, "5e31082f94a11e5354a51a07e874bd1622ca7f86d11ca2b5803acb5c6b2b500f"), looks := true }, kinds := [], alts := [], laidByText := true, laidKinds := [.sentinel, .sentinel, .sentinel, .sentinel], laidTests := true, laidLooks := .later }
def RivalGoesUptoCardSaid : Prop := Claim7.holds Tryd.pinned (.plain (OpenSpec.upto rivalGoesSpec)) rivalGoesUptoCard

/-- THE SECOND FORM's CARD OF 'levelhandlaw1.RivalComes'. -/
def rivalComesUptoCard : Claim7 := { stood := { row := rivalComesUptoRow, standIns := [], harness := (true, "5e31082f94a11e5354a51a07e874bd1622ca7f86d11ca2b5803acb5c6b2b500f"), looks := true }, kinds := [], alts := [], laidByText := true, laidKinds := [.sentinel, .sentinel, .sentinel, .sentinel], laidTests := true, laidLooks := .later }
def RivalComesUptoCardSaid : Prop := Claim7.holds Tryd.pinned (.plain (OpenSpec.upto rivalComesSpec)) rivalComesUptoCard

/-- THE SECOND FORM's CARD OF 'levelhandlaw1.MixNumbers'. -/
def mixNumbersUptoCard : Claim7 := { stood := { row := mixNumbersUptoRow, standIns := [], harness := (true, "5e31082f94a11e5354a51a07e874bd1622ca7f86d11ca2b5803acb5c6b2b500f"), looks := true }, kinds := [], alts := [], laidByText := true, laidKinds := [.handle, .sentinel, .sentinel, .sentinel, .sentinel, .sentinel, .sentinel, .sentinel, .sentinel, .sentinel], laidTests := true, laidLooks := .later }
def MixNumbersUptoCardSaid : Prop := Claim7.holds Tryd.pinned (.plain (OpenSpec.upto mixNumbersSpec)) mixNumbersUptoCard

/-- THE SECOND FORM's CARD OF 'levelhandlaw1.RingHosts'. -/
def ringHostsUptoCard : Claim7 := { stood := { row := ringHostsUptoRow, standIns := [], harness := (true, "5e31082f94a11e5354a51a07e874bd1622ca7f86d11ca2b5803acb5c6b2b500f"), looks := true }, kinds := [], alts := [], laidByText := true, laidKinds := [.handle, .sentinel, .sentinel, .sentinel, .sentinel, .sentinel, .sentinel, .sentinel, .sentinel, .sentinel], laidTests := true, laidLooks := .later }
def RingHostsUptoCardSaid : Prop := Claim7.holds Tryd.pinned (.plain (OpenSpec.upto ringHostsSpec)) ringHostsUptoCard

/-- THE SECOND FORM's CARD OF 'levelhandlaw1.FillPlaces'. -/
def fillPlacesUptoCard : Claim7 := { stood := { row := fillPlacesUptoRow, standIns := [], harness := (true, "5e31082f94a11e5354a51a07e874bd1622ca7f86d11ca2b5803acb5c6b2b500f"), looks := true }, kinds := [], alts := [], laidByText := true, laidKinds := [.handle, .sentinel, .sentinel, .sentinel, .sentinel, .sentinel, .sentinel, .sentinel, .sentinel, .sentinel], laidTests := true, laidLooks := .later }
def FillPlacesUptoCardSaid : Prop := Claim7.holds Tryd.pinned (.plain (OpenSpec.upto fillPlacesSpec)) fillPlacesUptoCard

/-- THE SECOND FORM's CARD OF 'levelhandlaw1.TableMakes'. -/
def tableMakesUptoCard : Claim7 := { stood := { row := tableMakesUptoRow, standIns := [], harness := (true, "5e31082f94a11e5354a51a07e874bd1622ca7f86d11ca2b5803acb5c6b2b500f"), looks := true }, kinds := [], alts := [], laidByText := true, laidKinds := [.handle, .sentinel, .sentinel, .sentinel, .sentinel, .sentinel, .sentinel, .sentinel, .sentinel, .sentinel], laidTests := true, laidLooks := .later }
def TableMakesUptoCardSaid : Prop := Claim7.holds Tryd.pinned (.plain (OpenSpec.upto tableMakesSpec)) tableMakesUptoCard

/-- THE SECOND FORM's CARD OF 'levelhandlaw1.TableCounts'. -/
def tableCountsUptoCard : Claim7 := { stood := { row := tableCountsUptoRow, standIns := [], harness := (true, "5e31082f94a11e5354a51a07e874bd1622ca7f86d11ca2b5803acb5c6b2b500f"), looks := true }, kinds := [], alts := [], laidByText := true, laidKinds := [.handle, .sentinel, .sentinel, .sentinel, .sentinel, .sentinel, .sentinel, .sentinel, .sentinel, .sentinel], laidTests := true, laidLooks := .later }
def TableCountsUptoCardSaid : Prop := Claim7.holds Tryd.pinned (.plain (OpenSpec.upto tableCountsSpec)) tableCountsUptoCard

/-- THE SECOND FORM's CARD OF 'levelhandlaw1.RivalOrders'. -/
def rivalOrdersUptoCard : Claim7 := { stood := { row := rivalOrdersUptoRow, standIns := [], harness := (true, "5e31082f94a11e5354a51a07e874bd1622ca7f86d11ca2b5803acb5c6b2b500f"), looks := true }, kinds := [], alts := [], laidByText := true, laidKinds := [.handle, .sentinel, .sentinel, .sentinel, .sentinel, .sentinel, .sentinel, .sentinel, .sentinel, .sentinel], laidTests := true, laidLooks := .later }
def RivalOrdersUptoCardSaid : Prop := Claim7.holds Tryd.pinned (.plain (OpenSpec.upto rivalOrdersSpec)) rivalOrdersUptoCard
end Rows
end Go.Proofs.YtbbbnnooaaelmaaDoor
