/-
  DERIVED. GIVEN WITH THE SEED: THE CARDS: each row of YthdkgphnleibmaaDoorRows.lean that lists a variable, with what it lists TIED to the program's text (the seventh form; the later family's looks); each row that meets fmt, with fmt's text TOLD by the authors' own Lean function (tested against real Go, not proved from fmt's source: count such statements apart). THE CARD IS WHAT COUNTS. Prove the row's statement (the work); the ties are given (YthdkgphnleibmaaDoorTie.lean); close each card by the builder's one call (the guide's Derived/Test/ToyasCard.lean, 'card_holds'). Laid BY PROGRAM, IN A SANDBOX (cutbox-door.mjs). By AI agents, Wed Nov 11 2026. No macro, syntax, notation, axiom, sorry.
-/
import Derived.Test.YthdkgphnleibmaaDoorRows
import GoSem.ClaimSeven
namespace Go.Proofs.YthdkgphnleibmaaDoor
namespace Rows

/-- THE TIED CARD OF 'burnishlaw01.IntnWraps'. -/
def intnWrapsCard : Claim7 := { stood := { row := intnWrapsRow, standIns := [], harness := (true, "f08e1ce4779a89996ebe9ab77a7b607a8d8dd225ff66b3c0a69e213480675e3e"), looks := false }, kinds := [], alts := [], laidByText := true, laidKinds := [.data], laidTests := true, laidLooks := .later }
def IntnWrapsCardSaid : Prop := Claim7.holds Tryd.pinned (.plain (OpenSpec.ofChange intnWrapsSpec)) intnWrapsCard

/-- THE TIED CARD OF 'burnishlaw01.IntnCompares'. -/
def intnComparesCard : Claim7 := { stood := { row := intnComparesRow, standIns := [], harness := (true, "f08e1ce4779a89996ebe9ab77a7b607a8d8dd225ff66b3c0a69e213480675e3e"), looks := false }, kinds := [], alts := [], laidByText := true, laidKinds := [.data], laidTests := true, laidLooks := .later }
def IntnComparesCardSaid : Prop := Claim7.holds Tryd.pinned (.plain (OpenSpec.ofChange intnComparesSpec)) intnComparesCard

/-- THE TIED CARD OF 'burnishlaw01.IntnShifts'. -/
def intnShiftsCard : Claim7 := { stood := { row := intnShiftsRow, standIns := [], harness := (true, "f08e1ce4779a89996ebe9ab77a7b607a8d8dd225ff66b3c0a69e213480675e3e"), looks := false }, kinds := [], alts := [], laidByText := true, laidKinds := [.data], laidTests := true, laidLooks := .later }
def IntnShiftsCardSaid : Prop := Claim7.holds Tryd.pinned (.plain (OpenSpec.ofChange intnShiftsSpec)) intnShiftsCard

/-- THE TIED CARD OF 'burnishlaw01.IntnSums'. -/
def intnSumsCard : Claim7 := { stood := { row := intnSumsRow, standIns := [], harness := (true, "f08e1ce4779a89996ebe9ab77a7b607a8d8dd225ff66b3c0a69e213480675e3e"), looks := false }, kinds := [], alts := [], laidByText := true, laidKinds := [.data], laidTests := true, laidLooks := .later }
def IntnSumsCardSaid : Prop := Claim7.holds Tryd.pinned (.plain (OpenSpec.ofChange intnSumsSpec)) intnSumsCard

/-- THE TIED CARD OF 'burnishlaw01.IntnRing'. -/
def intnRingCard : Claim7 := { stood := { row := intnRingRow, standIns := [], harness := (true, "f08e1ce4779a89996ebe9ab77a7b607a8d8dd225ff66b3c0a69e213480675e3e"), looks := false }, kinds := [], alts := [], laidByText := true, laidKinds := [.data], laidTests := true, laidLooks := .later }
def IntnRingCardSaid : Prop := Claim7.holds Tryd.pinned (.plain (OpenSpec.ofChange intnRingSpec)) intnRingCard

/-- THE TIED CARD OF 'burnishlaw01.IntnDivides'. -/
def intnDividesCard : Claim7 := { stood := { row := intnDividesRow, standIns := [], harness := (true, "f08e1ce4779a89996ebe9ab77a7b607a8d8dd225ff66b3c0a69e213480675e3e"), looks := false }, kinds := [], alts := [], laidByText := true, laidKinds := [.data], laidTests := true, laidLooks := .later }
def IntnDividesCardSaid : Prop := Claim7.holds Tryd.pinned (.plain (OpenSpec.ofChange intnDividesSpec)) intnDividesCard

/-- THE SECOND FORM's CARD OF 'burnishlaw01.IntnWraps'. -/
def intnWrapsUptoCard : Claim7 := { stood := { row := intnWrapsUptoRow, standIns := [], harness := (true, "f08e1ce4779a89996ebe9ab77a7b607a8d8dd225ff66b3c0a69e213480675e3e"), looks := false }, kinds := [], alts := [], laidByText := true, laidKinds := [.data], laidTests := true, laidLooks := .later }
def IntnWrapsUptoCardSaid : Prop := Claim7.holds Tryd.pinned (.plain (OpenSpec.upto intnWrapsSpec)) intnWrapsUptoCard

/-- THE SECOND FORM's CARD OF 'burnishlaw01.IntnCompares'. -/
def intnComparesUptoCard : Claim7 := { stood := { row := intnComparesUptoRow, standIns := [], harness := (true, "f08e1ce4779a89996ebe9ab77a7b607a8d8dd225ff66b3c0a69e213480675e3e"), looks := false }, kinds := [], alts := [], laidByText := true, laidKinds := [.data], laidTests := true, laidLooks := .later }
def IntnComparesUptoCardSaid : Prop := Claim7.holds Tryd.pinned (.plain (OpenSpec.upto intnComparesSpec)) intnComparesUptoCard

/-- THE SECOND FORM's CARD OF 'burnishlaw01.IntnShifts'. -/
def intnShiftsUptoCard : Claim7 := { stood := { row := intnShiftsUptoRow, standIns := [], harness := (true, "f08e1ce4779a89996ebe9ab77a7b607a8d8dd225ff66b3c0a69e213480675e3e"), looks := false }, kinds := [], alts := [], laidByText := true, laidKinds := [.data], laidTests := true, laidLooks := .later }
def IntnShiftsUptoCardSaid : Prop := Claim7.holds Tryd.pinned (.plain (OpenSpec.upto intnShiftsSpec)) intnShiftsUptoCard

/-- THE SECOND FORM's CARD OF 'burnishlaw01.IntnSums'. -/
def intnSumsUptoCard : Claim7 := { stood := { row := intnSumsUptoRow, standIns := [], harness := (true, "f08e1ce4779a89996ebe9ab77a7b607a8d8dd225ff66b3c0a69e213480675e3e"), looks := false }, kinds := [], alts := [], laidByText := true, laidKinds := [.data], laidTests := true, laidLooks := .later }
def IntnSumsUptoCardSaid : Prop := Claim7.holds Tryd.pinned (.plain (OpenSpec.upto intnSumsSpec)) intnSumsUptoCard

/-- THE SECOND FORM's CARD OF 'burnishlaw01.IntnRing'. -/
def intnRingUptoCard : Claim7 := { stood := { row := intnRingUptoRow, standIns := [], harness := (true, "f08e1ce4779a89996ebe9ab77a7b607a8d8dd225ff66b3c0a69e213480675e3e"), looks := false }, kinds := [], alts := [], laidByText := true, laidKinds := [.data], laidTests := true, laidLooks := .later }
def IntnRingUptoCardSaid : Prop := Claim7.holds Tryd.pinned (.plain (OpenSpec.upto intnRingSpec)) intnRingUptoCard

/-- THE SECOND FORM's CARD OF 'burnishlaw01.IntnDivides'. -/
def intnDividesUptoCard : Claim7 := { stood := { row := intnDividesUptoRow, standIns := [], harness := (true, "f08e1ce4779a89996ebe9ab77a7b607a8d8dd225ff66b3c0a69e213480675e3e"), looks := false }, kinds := [], alts := [], laidByText := true, laidKinds := [.data], laidTests := true, laidLooks := .later }
def IntnDividesUptoCardSaid : Prop := Claim7.holds Tryd.pinned (.plain (OpenSpec.upto intnDividesSpec)) intnDividesUptoCard
end Rows
end Go.Proofs.YthdkgphnleibmaaDoor
