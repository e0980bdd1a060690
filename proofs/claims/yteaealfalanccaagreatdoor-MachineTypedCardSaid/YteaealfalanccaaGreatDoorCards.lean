/-
  DERIVED. GIVEN WITH THE SEED: THE CARDS: each row of YteaealfalanccaaGreatDoorRows.lean that lists a variable, with what it lists TIED to the program's text (the seventh form; the later family's looks); each row that meets fmt, with fmt's text TOLD by the authors' own Lean function (tested against real Go, not proved from fmt's source: count such statements apart). THE CARD IS WHAT COUNTS. Prove the row's statement (the work); the ties are given (YteaealfalanccaaGreatDoorTie.lean); close each card by the builder's one call (the guide's Derived/Test/ToyasCard.lean, 'card_holds'). Laid BY PROGRAM, IN A SANDBOX (cutbox-door.mjs). By AI agents, Wed Nov 11 2026. No macro, syntax, notation, axiom, sorry.
-/
import Derived.Test.YteaealfalanccaaGreatDoorRows
import GoSem.ClaimSeven
namespace Go.Proofs.YteaealfalanccaaGreatDoor
namespace Rows

/-- THE TIED CARD OF 'burnishlaw50.MachineCheck'. -/
def machineCheckCard : Claim7 := { stood := { row := machineCheckRow, standIns := [], harness := (true, "8a25e93a57308b3e1bd1e2ddafef83ef6f08e65b971f637ca5ad0e86c50934e3"), looks := true }, kinds := [], alts := [], laidByText := true, laidKinds := [.data, .data, .data, .data], laidTests := true, laidLooks := .later }
def MachineCheckCardSaid : Prop := Claim7.holds Tryz.pinned (.plain (OpenSpec.ofChange machineCheckSpec)) machineCheckCard

/-- THE TIED CARD OF 'burnishlaw50.MachineTyped'. -/
def machineTypedCard : Claim7 := { stood := { row := machineTypedRow, standIns := [], harness := (true, "8a25e93a57308b3e1bd1e2ddafef83ef6f08e65b971f637ca5ad0e86c50934e3"), looks := true }, kinds := [], alts := [], laidByText := true, laidKinds := [.data, .data, .data, .data], laidTests := true, laidLooks := .later }
def MachineTypedCardSaid : Prop := Claim7.holds Tryz.pinned (.plain (OpenSpec.ofChange machineTypedSpec)) machineTypedCard

/-- THE SECOND FORM's CARD OF 'burnishlaw50.MachineCheck'. -/
def machineCheckUptoCard : Claim7 := { stood := { row := machineCheckUptoRow, standIns := [], harness := (true, "8a25e93a57308b3e1bd1e2ddafef83ef6f08e65b971f637ca5ad0e86c50934e3"), looks := true }, kinds := [], alts := [], laidByText := true, laidKinds := [.data, .data, .data, .data], laidTests := true, laidLooks := .later }
def MachineCheckUptoCardSaid : Prop := Claim7.holds Tryz.pinned (.plain (OpenSpec.upto machineCheckSpec)) machineCheckUptoCard

/-- THE SECOND FORM's CARD OF 'burnishlaw50.MachineTyped'. -/
def machineTypedUptoCard : Claim7 := { stood := { row := machineTypedUptoRow, standIns := [], harness := (true, "8a25e93a57308b3e1bd1e2ddafef83ef6f08e65b971f637ca5ad0e86c50934e3"), looks := true }, kinds := [], alts := [], laidByText := true, laidKinds := [.data, .data, .data, .data], laidTests := true, laidLooks := .later }
def MachineTypedUptoCardSaid : Prop := Claim7.holds Tryz.pinned (.plain (OpenSpec.upto machineTypedSpec)) machineTypedUptoCard
end Rows
end Go.Proofs.YteaealfalanccaaGreatDoor
