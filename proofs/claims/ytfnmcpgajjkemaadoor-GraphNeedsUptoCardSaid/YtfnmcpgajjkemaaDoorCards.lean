/-
  DERIVED. GIVEN WITH THE SEED: THE CARDS: each row of YtfnmcpgajjkemaaDoorRows.lean that lists a variable, with what it lists TIED to the program's text (the seventh form; the later family's looks); each row that meets fmt, with fmt's text TOLD by the authors' own Lean function (tested against real Go, not proved from fmt's source: count such statements apart). THE CARD IS WHAT COUNTS. Prove the row's statement (the work); the ties are given (YtfnmcpgajjkemaaDoorTie.lean); close each card by the builder's one call (the guide's Derived/Test/ToyasCard.lean, 'card_holds'). Laid BY PROGRAM, IN A SANDBOX (cutbox-door.mjs). By AI agents, Wed Nov 11 2026. No macro, syntax, notation, axiom, sorry.
-/
import Derived.Test.YtfnmcpgajjkemaaDoorRows
import GoSem.ClaimSeven
namespace Go.Proofs.YtfnmcpgajjkemaaDoor
namespace Rows

/-- THE TIED CARD OF 'shuttlelaw16.GraphOrders'. -/
def graphOrdersCard : Claim7 := { stood := { row := graphOrdersRow, standIns := [], harness := (true, "5afbd2f4e0d4586ddb3ab89539a31fddf24ef431041442dac8d8118fdb1884cf"), looks := true }, kinds := [], alts := [], laidByText := true, laidKinds := [.data, .pinned], laidTests := true, laidLooks := .later }
def GraphOrdersCardSaid : Prop := Claim7.holds Tryd.pinned (.plain (OpenSpec.ofChange graphOrdersSpec)) graphOrdersCard

/-- THE TIED CARD OF 'shuttlelaw16.GraphSorted'. -/
def graphSortedCard : Claim7 := { stood := { row := graphSortedRow, standIns := [], harness := (true, "5afbd2f4e0d4586ddb3ab89539a31fddf24ef431041442dac8d8118fdb1884cf"), looks := true }, kinds := [], alts := [], laidByText := true, laidKinds := [.data, .pinned], laidTests := true, laidLooks := .later }
def GraphSortedCardSaid : Prop := Claim7.holds Tryd.pinned (.plain (OpenSpec.ofChange graphSortedSpec)) graphSortedCard

/-- THE TIED CARD OF 'shuttlelaw16.GraphLeast'. -/
def graphLeastCard : Claim7 := { stood := { row := graphLeastRow, standIns := [], harness := (true, "5afbd2f4e0d4586ddb3ab89539a31fddf24ef431041442dac8d8118fdb1884cf"), looks := true }, kinds := [], alts := [], laidByText := true, laidKinds := [.data, .pinned], laidTests := true, laidLooks := .later }
def GraphLeastCardSaid : Prop := Claim7.holds Tryd.pinned (.plain (OpenSpec.ofChange graphLeastSpec)) graphLeastCard

/-- THE TIED CARD OF 'shuttlelaw16.GraphCycles'. -/
def graphCyclesCard : Claim7 := { stood := { row := graphCyclesRow, standIns := [], harness := (true, "5afbd2f4e0d4586ddb3ab89539a31fddf24ef431041442dac8d8118fdb1884cf"), looks := true }, kinds := [], alts := [], laidByText := true, laidKinds := [.data, .pinned], laidTests := true, laidLooks := .later }
def GraphCyclesCardSaid : Prop := Claim7.holds Tryd.pinned (.plain (OpenSpec.ofChange graphCyclesSpec)) graphCyclesCard

/-- THE TIED CARD OF 'shuttlelaw16.GraphStages'. -/
def graphStagesCard : Claim7 := { stood := { row := graphStagesRow, standIns := [], harness := (true, "5afbd2f4e0d4586ddb3ab89539a31fddf24ef431041442dac8d8118fdb1884cf"), looks := true }, kinds := [], alts := [], laidByText := true, laidKinds := [.data, .pinned], laidTests := true, laidLooks := .later }
def GraphStagesCardSaid : Prop := Claim7.holds Tryd.pinned (.plain (OpenSpec.ofChange graphStagesSpec)) graphStagesCard

/-- THE TIED CARD OF 'shuttlelaw16.GraphNeeds'. -/
def graphNeedsCard : Claim7 := { stood := { row := graphNeedsRow, standIns := [], harness := (true, "5afbd2f4e0d4586ddb3ab89539a31fddf24ef431041442dac8d8118fdb1884cf"), looks := true }, kinds := [], alts := [], laidByText := true, laidKinds := [.data, .pinned], laidTests := true, laidLooks := .later }
def GraphNeedsCardSaid : Prop := Claim7.holds Tryd.pinned (.plain (OpenSpec.ofChange graphNeedsSpec)) graphNeedsCard

/-- THE TIED CARD OF 'shuttlelaw16.GraphMore'. -/
def graphMoreCard : Claim7 := { stood := { row := graphMoreRow, standIns := [], harness := (true, "5afbd2f4e0d4586ddb3ab89539a31fddf24ef431041442dac8d8118fdb1884cf"), looks := true }, kinds := [], alts := [], laidByText := true, laidKinds := [.data, .pinned], laidTests := true, laidLooks := .later }
def GraphMoreCardSaid : Prop := Claim7.holds Tryd.pinned (.plain (OpenSpec.ofChange graphMoreSpec)) graphMoreCard

/-- THE SECOND FORM's CARD OF 'shuttlelaw16.GraphOrders'. -/
def graphOrdersUptoCard : Claim7 := { stood := { row := graphOrdersUptoRow, standIns := [], harness := (true, "5afbd2f4e0d4586ddb3ab89539a31fddf24ef431041442dac8d8118fdb1884cf"), looks := true }, kinds := [], alts := [], laidByText := true, laidKinds := [.data, .pinned], laidTests := true, laidLooks := .later }
def GraphOrdersUptoCardSaid : Prop := Claim7.holds Tryd.pinned (.plain (OpenSpec.upto graphOrdersSpec)) graphOrdersUptoCard

/-- THE SECOND FORM's CARD OF 'shuttlelaw16.GraphSorted'. -/
def graphSortedUptoCard : Claim7 := { stood := { row := graphSortedUptoRow, standIns := [], harness := (true, "5afbd2f4e0d4586ddb3ab89539a31fddf24ef431041442dac8d8118fdb1884cf"), looks := true }, kinds := [], alts := [], laidByText := true, laidKinds := [.data, .pinned], laidTests := true, laidLooks := .later }
def GraphSortedUptoCardSaid : Prop := Claim7.holds Tryd.pinned (.plain (OpenSpec.upto graphSortedSpec)) graphSortedUptoCard

/-- THE SECOND FORM's CARD OF 'shuttlelaw16.GraphLeast'. -/
def graphLeastUptoCard : Claim7 := { stood := { row := graphLeastUptoRow, standIns := [], harness := (true, "5afbd2f4e0d4586ddb3ab89539a31fddf24ef431041442dac8d8118fdb1884cf"), looks := true }, kinds := [], alts := [], laidByText := true, laidKinds := [.data, .pinned], laidTests := true, laidLooks := .later }
def GraphLeastUptoCardSaid : Prop := Claim7.holds Tryd.pinned (.plain (OpenSpec.upto graphLeastSpec)) graphLeastUptoCard

/-- THE SECOND FORM's CARD OF 'shuttlelaw16.GraphCycles'. -/
def graphCyclesUptoCard : Claim7 := { stood := { row := graphCyclesUptoRow, standIns := [], harness := (true, "5afbd2f4e0d4586ddb3ab89539a31fddf24ef431041442dac8d8118fdb1884cf"), looks := true }, kinds := [], alts := [], laidByText := true, laidKinds := [.data, .pinned], laidTests := true, laidLooks := .later }
def GraphCyclesUptoCardSaid : Prop := Claim7.holds Tryd.pinned (.plain (OpenSpec.upto graphCyclesSpec)) graphCyclesUptoCard

/-- THE SECOND FORM's CARD OF 'shuttlelaw16.GraphStages'. -/
def graphStagesUptoCard : Claim7 := { stood := { row := graphStagesUptoRow, standIns := [], harness := (true, "5afbd2f4e0d4586ddb3ab89539a31fddf24ef431041442dac8d8118fdb1884cf"), looks := true }, kinds := [], alts := [], laidByText := true, laidKinds := [.data, .pinned], laidTests := true, laidLooks := .later }
def GraphStagesUptoCardSaid : Prop := Claim7.holds Tryd.pinned (.plain (OpenSpec.upto graphStagesSpec)) graphStagesUptoCard

/-- THE SECOND FORM's CARD OF 'shuttlelaw16.GraphNeeds'. -/
def graphNeedsUptoCard : Claim7 := { stood := { row := graphNeedsUptoRow, standIns := [], harness := (true, "5afbd2f4e0d4586ddb3ab89539a31fddf24ef431041442dac8d8118fdb1884cf"), looks := true }, kinds := [], alts := [], laidByText := true, laidKinds := [.data, .pinned], laidTests := true, laidLooks := .later }
def GraphNeedsUptoCardSaid : Prop := Claim7.holds Tryd.pinned (.plain (OpenSpec.upto graphNeedsSpec)) graphNeedsUptoCard

/-- THE SECOND FORM's CARD OF 'shuttlelaw16.GraphMore'. -/
def graphMoreUptoCard : Claim7 := { stood := { row := graphMoreUptoRow, standIns := [], harness := (true, "5afbd2f4e0d4586ddb3ab89539a31fddf24ef431041442dac8d8118fdb1884cf"), looks := true }, kinds := [], alts := [], laidByText := true, laidKinds := [.data, .pinned], laidTests := true, laidLooks := .later }
def GraphMoreUptoCardSaid : Prop := Claim7.holds Tryd.pinned (.plain (OpenSpec.upto graphMoreSpec)) graphMoreUptoCard
end Rows
end Go.Proofs.YtfnmcpgajjkemaaDoor
