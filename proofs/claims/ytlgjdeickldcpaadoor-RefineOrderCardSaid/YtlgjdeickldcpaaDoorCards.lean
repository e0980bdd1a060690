/-
  DERIVED. GIVEN WITH THE SEED: THE CARDS: each row of YtlgjdeickldcpaaDoorRows.lean that lists a variable, with what it lists TIED to the program's text (the seventh form; the later family's looks); each row that meets fmt, with fmt's text TOLD by the authors' own Lean function (tested against real Go, not proved from fmt's source: count such statements apart). THE CARD IS WHAT COUNTS. Prove the row's statement (the work); the ties are given (YtlgjdeickldcpaaDoorTie.lean); close each card by the builder's one call (the guide's Derived/Test/ToyasCard.lean, 'card_holds'). Laid BY PROGRAM, IN A SANDBOX (cutbox-door.mjs). By AI agents, Wed Nov 11 2026. No macro, syntax, notation, axiom, sorry.
-/
import Derived.Test.YtlgjdeickldcpaaDoorRows
import GoSem.ClaimSeven
namespace Go.Proofs.YtlgjdeickldcpaaDoor
namespace Rows

/-- THE TIED CARD OF 'burnishlaw19.RefineOutcomes'. -/
def refineOutcomesCard : Claim7 := { stood := { row := refineOutcomesRow, standIns := [], harness := (true, "6383052738af58cb9ae3f8b4d217c30fcf484ee72aeaaee18c4e3224a2eb84ed"), looks := false }, kinds := [], alts := [], laidByText := true, laidKinds := [.data, .data, .data], laidTests := true, laidLooks := .later }
def RefineOutcomesCardSaid : Prop := Claim7.holds Tryd.pinned (.plain (OpenSpec.ofChange refineOutcomesSpec)) refineOutcomesCard

/-- THE TIED CARD OF 'burnishlaw19.RefineValues'. -/
def refineValuesCard : Claim7 := { stood := { row := refineValuesRow, standIns := [], harness := (true, "6383052738af58cb9ae3f8b4d217c30fcf484ee72aeaaee18c4e3224a2eb84ed"), looks := false }, kinds := [], alts := [], laidByText := true, laidKinds := [.data, .data, .data], laidTests := true, laidLooks := .later }
def RefineValuesCardSaid : Prop := Claim7.holds Tryd.pinned (.plain (OpenSpec.ofChange refineValuesSpec)) refineValuesCard

/-- THE TIED CARD OF 'burnishlaw19.RefineSteps'. -/
def refineStepsCard : Claim7 := { stood := { row := refineStepsRow, standIns := [], harness := (true, "6383052738af58cb9ae3f8b4d217c30fcf484ee72aeaaee18c4e3224a2eb84ed"), looks := false }, kinds := [], alts := [], laidByText := true, laidKinds := [.data, .data, .data], laidTests := true, laidLooks := .later }
def RefineStepsCardSaid : Prop := Claim7.holds Tryd.pinned (.plain (OpenSpec.ofChange refineStepsSpec)) refineStepsCard

/-- THE TIED CARD OF 'burnishlaw19.RefineOrder'. -/
def refineOrderCard : Claim7 := { stood := { row := refineOrderRow, standIns := [], harness := (true, "6383052738af58cb9ae3f8b4d217c30fcf484ee72aeaaee18c4e3224a2eb84ed"), looks := false }, kinds := [], alts := [], laidByText := true, laidKinds := [.data, .data, .data], laidTests := true, laidLooks := .later }
def RefineOrderCardSaid : Prop := Claim7.holds Tryd.pinned (.plain (OpenSpec.ofChange refineOrderSpec)) refineOrderCard

/-- THE TIED CARD OF 'burnishlaw19.RefineGlobals'. -/
def refineGlobalsCard : Claim7 := { stood := { row := refineGlobalsRow, standIns := [], harness := (true, "6383052738af58cb9ae3f8b4d217c30fcf484ee72aeaaee18c4e3224a2eb84ed"), looks := false }, kinds := [], alts := [], laidByText := true, laidKinds := [.data, .data, .data], laidTests := true, laidLooks := .later }
def RefineGlobalsCardSaid : Prop := Claim7.holds Tryd.pinned (.plain (OpenSpec.ofChange refineGlobalsSpec)) refineGlobalsCard

/-- THE SECOND FORM's CARD OF 'burnishlaw19.RefineOutcomes'. -/
def refineOutcomesUptoCard : Claim7 := { stood := { row := refineOutcomesUptoRow, standIns := [], harness := (true, "6383052738af58cb9ae3f8b4d217c30fcf484ee72aeaaee18c4e3224a2eb84ed"), looks := false }, kinds := [], alts := [], laidByText := true, laidKinds := [.data, .data, .data], laidTests := true, laidLooks := .later }
def RefineOutcomesUptoCardSaid : Prop := Claim7.holds Tryd.pinned (.plain (OpenSpec.upto refineOutcomesSpec)) refineOutcomesUptoCard

/-- THE SECOND FORM's CARD OF 'burnishlaw19.RefineValues'. -/
def refineValuesUptoCard : Claim7 := { stood := { row := refineValuesUptoRow, standIns := [], harness := (true, "6383052738af58cb9ae3f8b4d217c30fcf484ee72aeaaee18c4e3224a2eb84ed"), looks := false }, kinds := [], alts := [], laidByText := true, laidKinds := [.data, .data, .data], laidTests := true, laidLooks := .later }
def RefineValuesUptoCardSaid : Prop := Claim7.holds Tryd.pinned (.plain (OpenSpec.upto refineValuesSpec)) refineValuesUptoCard

/-- THE SECOND FORM's CARD OF 'burnishlaw19.RefineSteps'. -/
def refineStepsUptoCard : Claim7 := { stood := { row := refineStepsUptoRow, standIns := [], harness := (true, "6383052738af58cb9ae3f8b4d217c30fcf484ee72aeaaee18c4e3224a2eb84ed"), looks := false }, kinds := [], alts := [], laidByText := true, laidKinds := [.data, .data, .data], laidTests := true, laidLooks := .later }
def RefineStepsUptoCardSaid : Prop := Claim7.holds Tryd.pinned (.plain (OpenSpec.upto refineStepsSpec)) refineStepsUptoCard

/-- THE SECOND FORM's CARD OF 'burnishlaw19.RefineOrder'. -/
def refineOrderUptoCard : Claim7 := { stood := { row := refineOrderUptoRow, standIns := [], harness := (true, "6383052738af58cb9ae3f8b4d217c30fcf484ee72aeaaee18c4e3224a2eb84ed"), looks := false }, kinds := [], alts := [], laidByText := true, laidKinds := [.data, .data, .data], laidTests := true, laidLooks := .later }
def RefineOrderUptoCardSaid : Prop := Claim7.holds Tryd.pinned (.plain (OpenSpec.upto refineOrderSpec)) refineOrderUptoCard

/-- THE SECOND FORM's CARD OF 'burnishlaw19.RefineGlobals'. -/
def refineGlobalsUptoCard : Claim7 := { stood := { row := refineGlobalsUptoRow, standIns := [], harness := (true, "6383052738af58cb9ae3f8b4d217c30fcf484ee72aeaaee18c4e3224a2eb84ed"), looks := false }, kinds := [], alts := [], laidByText := true, laidKinds := [.data, .data, .data], laidTests := true, laidLooks := .later }
def RefineGlobalsUptoCardSaid : Prop := Claim7.holds Tryd.pinned (.plain (OpenSpec.upto refineGlobalsSpec)) refineGlobalsUptoCard
end Rows
end Go.Proofs.YtlgjdeickldcpaaDoor
