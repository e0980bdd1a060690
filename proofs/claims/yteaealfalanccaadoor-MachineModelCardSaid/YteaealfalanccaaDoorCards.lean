/-
  DERIVED. GIVEN WITH THE SEED: THE CARDS: each row of YteaealfalanccaaDoorRows.lean that lists a variable, with what it lists TIED to the program's text (the seventh form; the later family's looks); each row that meets fmt, with fmt's text TOLD by the authors' own Lean function (tested against real Go, not proved from fmt's source: count such statements apart). THE CARD IS WHAT COUNTS. Prove the row's statement (the work); the ties are given (YteaealfalanccaaDoorTie.lean); close each card by the builder's one call (the guide's Derived/Test/ToyasCard.lean, 'card_holds'). Laid BY PROGRAM, IN A SANDBOX (cutbox-door.mjs). By AI agents, Wed Nov 11 2026. No macro, syntax, notation, axiom, sorry.
-/
import Derived.Test.YteaealfalanccaaDoorRows
import GoSem.ClaimSeven
namespace Go.Proofs.YteaealfalanccaaDoor
namespace Rows

/-- THE TIED CARD OF 'burnishlaw50.MachineModel'. -/
def machineModelCard : Claim7 := { stood := { row := machineModelRow, standIns := [], harness := (true, "b327bdab081b0bae6c678a1d1fff7ec15c6738ad0ce64426af87802a797280ec"), looks := true }, kinds := [], alts := [], laidByText := true, laidKinds := [.data, .data, .data, .data], laidTests := true, laidLooks := .later }
def MachineModelCardSaid : Prop := Claim7.holds Tryd.pinned (.plain (OpenSpec.ofChange machineModelSpec)) machineModelCard

/-- THE SECOND FORM's CARD OF 'burnishlaw50.MachineModel'. -/
def machineModelUptoCard : Claim7 := { stood := { row := machineModelUptoRow, standIns := [], harness := (true, "b327bdab081b0bae6c678a1d1fff7ec15c6738ad0ce64426af87802a797280ec"), looks := true }, kinds := [], alts := [], laidByText := true, laidKinds := [.data, .data, .data, .data], laidTests := true, laidLooks := .later }
def MachineModelUptoCardSaid : Prop := Claim7.holds Tryd.pinned (.plain (OpenSpec.upto machineModelSpec)) machineModelUptoCard
end Rows
end Go.Proofs.YteaealfalanccaaDoor
