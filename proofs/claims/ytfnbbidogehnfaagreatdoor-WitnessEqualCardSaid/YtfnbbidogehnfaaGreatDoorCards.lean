/-
  DERIVED. GIVEN WITH THE SEED: THE CARDS: each row of YtfnbbidogehnfaaGreatDoorRows.lean that lists a variable, with what it lists TIED to the program's text (the seventh form; the later family's looks); each row that meets fmt, with fmt's text TOLD by the authors' own Lean function (tested against real Go, not proved from fmt's source: count such statements apart). THE CARD IS WHAT COUNTS. Prove the row's statement (the work); the ties are given (YtfnbbidogehnfaaGreatDoorTie.lean); close each card by the builder's one call (the guide's Derived/Test/ToyasCard.lean, 'card_holds'). Laid BY PROGRAM, IN A SANDBOX (cutbox-door.mjs). By AI agents, Wed Nov 11 2026. No macro, syntax, notation, axiom, sorry.
-/
import Derived.Test.YtfnbbidogehnfaaGreatDoorRows
import GoSem.ClaimSeven
namespace Go.Proofs.YtfnbbidogehnfaaGreatDoor
namespace Rows

/-- THE TIED CARD OF 'burnishlaw24.WitnessCheck'. -/
def witnessCheckCard : Claim7 := { stood := { row := witnessCheckRow, standIns := [], harness := (true, "248906e1bdde65452da4edfd072d2738b906b210090a92aad9e89ded06935def"), looks := true }, kinds := [], alts := [], laidByText := true, laidKinds := [.data, .data], laidTests := true, laidLooks := .later }
def WitnessCheckCardSaid : Prop := Claim7.holds Tryz.pinned (.plain (OpenSpec.ofChange witnessCheckSpec)) witnessCheckCard

/-- THE TIED CARD OF 'burnishlaw24.WitnessDecode'. -/
def witnessDecodeCard : Claim7 := { stood := { row := witnessDecodeRow, standIns := [], harness := (true, "248906e1bdde65452da4edfd072d2738b906b210090a92aad9e89ded06935def"), looks := true }, kinds := [], alts := [], laidByText := true, laidKinds := [.data, .data], laidTests := true, laidLooks := .later }
def WitnessDecodeCardSaid : Prop := Claim7.holds Tryz.pinned (.plain (OpenSpec.ofChange witnessDecodeSpec)) witnessDecodeCard

/-- THE TIED CARD OF 'burnishlaw24.WitnessCutPoints'. -/
def witnessCutPointsCard : Claim7 := { stood := { row := witnessCutPointsRow, standIns := [], harness := (true, "248906e1bdde65452da4edfd072d2738b906b210090a92aad9e89ded06935def"), looks := true }, kinds := [], alts := [], laidByText := true, laidKinds := [.data, .data], laidTests := true, laidLooks := .later }
def WitnessCutPointsCardSaid : Prop := Claim7.holds Tryz.pinned (.plain (OpenSpec.ofChange witnessCutPointsSpec)) witnessCutPointsCard

/-- THE TIED CARD OF 'burnishlaw24.WitnessIdentity'. -/
def witnessIdentityCard : Claim7 := { stood := { row := witnessIdentityRow, standIns := [], harness := (true, "248906e1bdde65452da4edfd072d2738b906b210090a92aad9e89ded06935def"), looks := true }, kinds := [], alts := [], laidByText := true, laidKinds := [.data, .data], laidTests := true, laidLooks := .later }
def WitnessIdentityCardSaid : Prop := Claim7.holds Tryz.pinned (.plain (OpenSpec.ofChange witnessIdentitySpec)) witnessIdentityCard

/-- THE TIED CARD OF 'burnishlaw24.WitnessReflexive'. -/
def witnessReflexiveCard : Claim7 := { stood := { row := witnessReflexiveRow, standIns := [], harness := (true, "248906e1bdde65452da4edfd072d2738b906b210090a92aad9e89ded06935def"), looks := true }, kinds := [], alts := [], laidByText := true, laidKinds := [.data, .data], laidTests := true, laidLooks := .later }
def WitnessReflexiveCardSaid : Prop := Claim7.holds Tryz.pinned (.plain (OpenSpec.ofChange witnessReflexiveSpec)) witnessReflexiveCard

/-- THE TIED CARD OF 'burnishlaw24.WitnessEqual'. -/
def witnessEqualCard : Claim7 := { stood := { row := witnessEqualRow, standIns := [], harness := (true, "248906e1bdde65452da4edfd072d2738b906b210090a92aad9e89ded06935def"), looks := true }, kinds := [], alts := [], laidByText := true, laidKinds := [.data, .data], laidTests := true, laidLooks := .later }
def WitnessEqualCardSaid : Prop := Claim7.holds Tryz.pinned (.plain (OpenSpec.ofChange witnessEqualSpec)) witnessEqualCard

/-- THE TIED CARD OF 'burnishlaw24.WitnessEncode'. -/
def witnessEncodeCard : Claim7 := { stood := { row := witnessEncodeRow, standIns := [], harness := (true, "248906e1bdde65452da4edfd072d2738b906b210090a92aad9e89ded06935def"), looks := true }, kinds := [], alts := [], laidByText := true, laidKinds := [.data, .data], laidTests := true, laidLooks := .later }
def WitnessEncodeCardSaid : Prop := Claim7.holds Tryz.pinned (.plain (OpenSpec.ofChange witnessEncodeSpec)) witnessEncodeCard

/-- THE TIED CARD OF 'burnishlaw24.WitnessRoundTrip'. -/
def witnessRoundTripCard : Claim7 := { stood := { row := witnessRoundTripRow, standIns := [], harness := (true, "248906e1bdde65452da4edfd072d2738b906b210090a92aad9e89ded06935def"), looks := true }, kinds := [], alts := [], laidByText := true, laidKinds := [.data, .data], laidTests := true, laidLooks := .later }
def WitnessRoundTripCardSaid : Prop := Claim7.holds Tryz.pinned (.plain (OpenSpec.ofChange witnessRoundTripSpec)) witnessRoundTripCard

/-- THE SECOND FORM's CARD OF 'burnishlaw24.WitnessCheck'. -/
def witnessCheckUptoCard : Claim7 := { stood := { row := witnessCheckUptoRow, standIns := [], harness := (true, "248906e1bdde65452da4edfd072d2738b906b210090a92aad9e89ded06935def"), looks := true }, kinds := [], alts := [], laidByText := true, laidKinds := [.data, .data], laidTests := true, laidLooks := .later }
def WitnessCheckUptoCardSaid : Prop := Claim7.holds Tryz.pinned (.plain (OpenSpec.upto witnessCheckSpec)) witnessCheckUptoCard

/-- THE SECOND FORM's CARD OF 'burnishlaw24.WitnessDecode'. -/
def witnessDecodeUptoCard : Claim7 := { stood := { row := witnessDecodeUptoRow, standIns := [], harness := (true, "248906e1bdde65452da4edfd072d2738b906b210090a92aad9e89ded06935def"), looks := true }, kinds := [], alts := [], laidByText := true, laidKinds := [.data, .data], laidTests := true, laidLooks := .later }
def WitnessDecodeUptoCardSaid : Prop := Claim7.holds Tryz.pinned (.plain (OpenSpec.upto witnessDecodeSpec)) witnessDecodeUptoCard

/-- THE SECOND FORM's CARD OF 'burnishlaw24.WitnessCutPoints'. -/
def witnessCutPointsUptoCard : Claim7 := { stood := { row := witnessCutPointsUptoRow, standIns := [], harness := (true, "248906e1bdde65452da4edfd072d2738b906b210090a92aad9e89ded06935def"), looks := true }, kinds := [], alts := [], laidByText := true, laidKinds := [.data, .data], laidTests := true, laidLooks := .later }
def WitnessCutPointsUptoCardSaid : Prop := Claim7.holds Tryz.pinned (.plain (OpenSpec.upto witnessCutPointsSpec)) witnessCutPointsUptoCard

/-- THE SECOND FORM's CARD OF 'burnishlaw24.WitnessIdentity'. -/
def witnessIdentityUptoCard : Claim7 := { stood := { row := witnessIdentityUptoRow, standIns := [], harness := (true, "248906e1bdde65452da4edfd072d2738b906b210090a92aad9e89ded06935def"), looks := true }, kinds := [], alts := [], laidByText := true, laidKinds := [.data, .data], laidTests := true, laidLooks := .later }
def WitnessIdentityUptoCardSaid : Prop := Claim7.holds Tryz.pinned (.plain (OpenSpec.upto witnessIdentitySpec)) witnessIdentityUptoCard

/-- THE SECOND FORM's CARD OF 'burnishlaw24.WitnessReflexive'. -/
def witnessReflexiveUptoCard : Claim7 := { stood := { row := witnessReflexiveUptoRow, standIns := [], harness := (true, "248906e1bdde65452da4edfd072d2738b906b210090a92aad9e89ded06935def"), looks := true }, kinds := [], alts := [], laidByText := true, laidKinds := [.data, .data], laidTests := true, laidLooks := .later }
def WitnessReflexiveUptoCardSaid : Prop := Claim7.holds Tryz.pinned (.plain (OpenSpec.upto witnessReflexiveSpec)) witnessReflexiveUptoCard

/-- THE SECOND FORM's CARD OF 'burnishlaw24.WitnessEqual'. -/
def witnessEqualUptoCard : Claim7 := { stood := { row := witnessEqualUptoRow, standIns := [], harness := (true, "248906e1bdde65452da4edfd072d2738b906b210090a92aad9e89ded06935def"), looks := true }, kinds := [], alts := [], laidByText := true, laidKinds := [.data, .data], laidTests := true, laidLooks := .later }
def WitnessEqualUptoCardSaid : Prop := Claim7.holds Tryz.pinned (.plain (OpenSpec.upto witnessEqualSpec)) witnessEqualUptoCard

/-- THE SECOND FORM's CARD OF 'burnishlaw24.WitnessEncode'. -/
def witnessEncodeUptoCard : Claim7 := { stood := { row := witnessEncodeUptoRow, standIns := [], harness := (true, "248906e1bdde65452da4edfd072d2738b906b210090a92aad9e89ded06935def"), looks := true }, kinds := [], alts := [], laidByText := true, laidKinds := [.data, .data], laidTests := true, laidLooks := .later }
def WitnessEncodeUptoCardSaid : Prop := Claim7.holds Tryz.pinned (.plain (OpenSpec.upto witnessEncodeSpec)) witnessEncodeUptoCard

/-- THE SECOND FORM's CARD OF 'burnishlaw24.WitnessRoundTrip'. -/
def witnessRoundTripUptoCard : Claim7 := { stood := { row := witnessRoundTripUptoRow, standIns := [], harness := (true, "248906e1bdde65452da4edfd072d2738b906b210090a92aad9e89ded06935def"), looks := true }, kinds := [], alts := [], laidByText := true, laidKinds := [.data, .data], laidTests := true, laidLooks := .later }
def WitnessRoundTripUptoCardSaid : Prop := Claim7.holds Tryz.pinned (.plain (OpenSpec.upto witnessRoundTripSpec)) witnessRoundTripUptoCard
end Rows
end Go.Proofs.YtfnbbidogehnfaaGreatDoor
