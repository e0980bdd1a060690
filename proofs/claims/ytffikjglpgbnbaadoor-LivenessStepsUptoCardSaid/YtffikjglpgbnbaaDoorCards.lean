/-
  DERIVED. GIVEN WITH THE SEED: THE CARDS: each row of YtffikjglpgbnbaaDoorRows.lean that lists a variable, with what it lists TIED to the program's text (the seventh form; the later family's looks); each row that meets fmt, with fmt's text TOLD by the authors' own Lean function (tested against real Go, not proved from fmt's source: count such statements apart). THE CARD IS WHAT COUNTS. Prove the row's statement (the work); the ties are given (YtffikjglpgbnbaaDoorTie.lean); close each card by the builder's one call (the guide's Derived/Test/ToyasCard.lean, 'card_holds'). Laid BY PROGRAM, IN A SANDBOX (cutbox-door.mjs). By AI agents, Wed Nov 11 2026. No macro, syntax, notation, axiom, sorry.
-/
import Derived.Test.YtffikjglpgbnbaaDoorRows
import GoSem.ClaimSeven
namespace Go.Proofs.YtffikjglpgbnbaaDoor
namespace Rows

/-- THE TIED CARD OF 'burnishlaw21.LivenessTells'. -/
def livenessTellsCard : Claim7 := { stood := { row := livenessTellsRow, standIns := [], harness := (true, "9a9133260edf124c5c251c6b23fc52a52d60b4c8925d3586e13f9eeffd3cb608"), looks := false }, kinds := [], alts := [], laidByText := true, laidKinds := [.data], laidTests := true, laidLooks := .later }
def LivenessTellsCardSaid : Prop := Claim7.holds Tryd.pinned (.plain (OpenSpec.ofChange livenessTellsSpec)) livenessTellsCard

/-- THE TIED CARD OF 'burnishlaw21.LivenessSteps'. -/
def livenessStepsCard : Claim7 := { stood := { row := livenessStepsRow, standIns := [], harness := (true, "9a9133260edf124c5c251c6b23fc52a52d60b4c8925d3586e13f9eeffd3cb608"), looks := false }, kinds := [], alts := [], laidByText := true, laidKinds := [.data], laidTests := true, laidLooks := .later }
def LivenessStepsCardSaid : Prop := Claim7.holds Tryd.pinned (.plain (OpenSpec.ofChange livenessStepsSpec)) livenessStepsCard

/-- THE SECOND FORM's CARD OF 'burnishlaw21.LivenessTells'. -/
def livenessTellsUptoCard : Claim7 := { stood := { row := livenessTellsUptoRow, standIns := [], harness := (true, "9a9133260edf124c5c251c6b23fc52a52d60b4c8925d3586e13f9eeffd3cb608"), looks := false }, kinds := [], alts := [], laidByText := true, laidKinds := [.data], laidTests := true, laidLooks := .later }
def LivenessTellsUptoCardSaid : Prop := Claim7.holds Tryd.pinned (.plain (OpenSpec.upto livenessTellsSpec)) livenessTellsUptoCard

/-- THE SECOND FORM's CARD OF 'burnishlaw21.LivenessSteps'. -/
def livenessStepsUptoCard : Claim7 := { stood := { row := livenessStepsUptoRow, standIns := [], harness := (true, "9a9133260edf124c5c251c6b23fc52a52d60b4c8925d3586e13f9eeffd3cb608"), looks := false }, kinds := [], alts := [], laidByText := true, laidKinds := [.data], laidTests := true, laidLooks := .later }
def LivenessStepsUptoCardSaid : Prop := Claim7.holds Tryd.pinned (.plain (OpenSpec.upto livenessStepsSpec)) livenessStepsUptoCard
end Rows
end Go.Proofs.YtffikjglpgbnbaaDoor
