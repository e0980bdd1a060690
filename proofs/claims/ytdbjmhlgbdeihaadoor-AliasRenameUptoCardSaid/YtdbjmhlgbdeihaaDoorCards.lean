/-
  DERIVED. GIVEN WITH THE SEED: THE CARDS: each row of YtdbjmhlgbdeihaaDoorRows.lean that lists a variable, with what it lists TIED to the program's text (the seventh form; the later family's looks); each row that meets fmt, with fmt's text TOLD by the authors' own Lean function (tested against real Go, not proved from fmt's source: count such statements apart). THE CARD IS WHAT COUNTS. Prove the row's statement (the work); the ties are given (YtdbjmhlgbdeihaaDoorTie.lean); close each card by the builder's one call (the guide's Derived/Test/ToyasCard.lean, 'card_holds'). Laid BY PROGRAM, IN A SANDBOX (cutbox-door.mjs). By AI agents, Wed Nov 11 2026. No macro, syntax, notation, axiom, sorry.
-/
import Derived.Test.YtdbjmhlgbdeihaaDoorRows
import GoSem.ClaimSeven
namespace Go.Proofs.YtdbjmhlgbdeihaaDoor
namespace Rows

/-- THE TIED CARD OF 'burnishlaw27.AliasRelate'. -/
def aliasRelateCard : Claim7 := { stood := { row := aliasRelateRow, standIns := [], harness := (true, "399d68749980be8c7f0a92343530123e55a0396777b7e78e96bef7835782fce5"), looks := false }, kinds := [], alts := [], laidByText := true, laidKinds := [.data, .data], laidTests := true, laidLooks := .later }
def AliasRelateCardSaid : Prop := Claim7.holds Tryd.pinned (.plain (OpenSpec.ofChange aliasRelateSpec)) aliasRelateCard

/-- THE TIED CARD OF 'burnishlaw27.AliasQuery'. -/
def aliasQueryCard : Claim7 := { stood := { row := aliasQueryRow, standIns := [], harness := (true, "399d68749980be8c7f0a92343530123e55a0396777b7e78e96bef7835782fce5"), looks := false }, kinds := [], alts := [], laidByText := true, laidKinds := [.data, .data], laidTests := true, laidLooks := .later }
def AliasQueryCardSaid : Prop := Claim7.holds Tryd.pinned (.plain (OpenSpec.ofChange aliasQuerySpec)) aliasQueryCard

/-- THE TIED CARD OF 'burnishlaw27.AliasSpans'. -/
def aliasSpansCard : Claim7 := { stood := { row := aliasSpansRow, standIns := [], harness := (true, "399d68749980be8c7f0a92343530123e55a0396777b7e78e96bef7835782fce5"), looks := false }, kinds := [], alts := [], laidByText := true, laidKinds := [.data, .data], laidTests := true, laidLooks := .later }
def AliasSpansCardSaid : Prop := Claim7.holds Tryd.pinned (.plain (OpenSpec.ofChange aliasSpansSpec)) aliasSpansCard

/-- THE TIED CARD OF 'burnishlaw27.AliasRename'. -/
def aliasRenameCard : Claim7 := { stood := { row := aliasRenameRow, standIns := [], harness := (true, "399d68749980be8c7f0a92343530123e55a0396777b7e78e96bef7835782fce5"), looks := false }, kinds := [], alts := [], laidByText := true, laidKinds := [.data, .data], laidTests := true, laidLooks := .later }
def AliasRenameCardSaid : Prop := Claim7.holds Tryd.pinned (.plain (OpenSpec.ofChange aliasRenameSpec)) aliasRenameCard

/-- THE SECOND FORM's CARD OF 'burnishlaw27.AliasRelate'. -/
def aliasRelateUptoCard : Claim7 := { stood := { row := aliasRelateUptoRow, standIns := [], harness := (true, "399d68749980be8c7f0a92343530123e55a0396777b7e78e96bef7835782fce5"), looks := false }, kinds := [], alts := [], laidByText := true, laidKinds := [.data, .data], laidTests := true, laidLooks := .later }
def AliasRelateUptoCardSaid : Prop := Claim7.holds Tryd.pinned (.plain (OpenSpec.upto aliasRelateSpec)) aliasRelateUptoCard

/-- THE SECOND FORM's CARD OF 'burnishlaw27.AliasQuery'. -/
def aliasQueryUptoCard : Claim7 := { stood := { row := aliasQueryUptoRow, standIns := [], harness := (true, "399d68749980be8c7f0a92343530123e55a0396777b7e78e96bef7835782fce5"), looks := false }, kinds := [], alts := [], laidByText := true, laidKinds := [.data, .data], laidTests := true, laidLooks := .later }
def AliasQueryUptoCardSaid : Prop := Claim7.holds Tryd.pinned (.plain (OpenSpec.upto aliasQuerySpec)) aliasQueryUptoCard

/-- THE SECOND FORM's CARD OF 'burnishlaw27.AliasSpans'. -/
def aliasSpansUptoCard : Claim7 := { stood := { row := aliasSpansUptoRow, standIns := [], harness := (true, "399d68749980be8c7f0a92343530123e55a0396777b7e78e96bef7835782fce5"), looks := false }, kinds := [], alts := [], laidByText := true, laidKinds := [.data, .data], laidTests := true, laidLooks := .later }
def AliasSpansUptoCardSaid : Prop := Claim7.holds Tryd.pinned (.plain (OpenSpec.upto aliasSpansSpec)) aliasSpansUptoCard

/-- THE SECOND FORM's CARD OF 'burnishlaw27.AliasRename'. -/
def aliasRenameUptoCard : Claim7 := { stood := { row := aliasRenameUptoRow, standIns := [], harness := (true, "399d68749980be8c7f0a92343530123e55a0396777b7e78e96bef7835782fce5"), looks := false }, kinds := [], alts := [], laidByText := true, laidKinds := [.data, .data], laidTests := true, laidLooks := .later }
def AliasRenameUptoCardSaid : Prop := Claim7.holds Tryd.pinned (.plain (OpenSpec.upto aliasRenameSpec)) aliasRenameUptoCard
end Rows
end Go.Proofs.YtdbjmhlgbdeihaaDoor
