/-
  NARROWER THAN 'FOR EVERY INPUT', by the rows' own cells (each row's printed sentence says how): WitnessCheck: laid · WitnessDecode: laid · WitnessCutPoints: laid · WitnessIdentity: laid · WitnessReflexive: laid · WitnessEqual: laid · WitnessEncode: laid · WitnessRoundTrip: laid.
  DERIVED. THE GIVEN ROWS OF THIS SEAT. 8 by the template 'for every input the law returns true; each argument reads behind the call as it read before'; 0 by the template 'total and deterministic' (their statements: YtfnbbidogehnfaaGreatDoorTotals.lean).
  GIVEN WITH THE SEED: the statements are not yours to turn. If you find one false, say at which input.
  Laid BY PROGRAM, IN A SANDBOX (cutbox-rows.mjs): the forced cells as the released guide's own fill.sh prints them over the translation 4a0b91c73cd8f40b… (all of the seat's roots in one cut). By AI agents, Wed Nov 11 2026. No macro, syntax, notation, axiom, sorry.
-/
import Derived.Test.YtfnbbidogehnfaaGreatDoorChecked
import GoSem.Claim
import GoSem.ClaimJoined
import GoSem.ClaimMapViews
import Derived.JoinedTies
import Derived.KernelRfl
namespace Go.Proofs.YtfnbbidogehnfaaGreatDoor
/- THE CELL 'sum', in the pinned program and in every row, IS THE sha256 OF THE DUMP (.gsa) THAT YtfnbbidogehnfaaGreatDoorProg.lean LOADS. Nothing in Lean hashes anything: it is a label: what it is worth is what the hold of that sum in a sandbox is worth. -/
noncomputable def Tryz.pinned : Pinned := { name := "ytfnbbidogehnfaagreatdoor", sum := "4a0b91c73cd8f40bef9a4b3c4b89a030b080f35a2e02bc81f5eb5c51ac7a86a0", checked := Tryz.checked }
namespace Rows
def none {H : Type} : Left H := { results := [], args := [] }

/- WHAT THE LISTED PACKAGE-LEVEL VARIABLES READ AS WHEN THE CALL BEGINS. Each datum BY PROGRAM (the guide's laid-datum.mjs) off the statement by which the dump's own 'gosem.cut.vars' lays the variable. In a bare row this is a premise. The card (YtfnbbidogehnfaaGreatDoorCards.lean) ties it to the program's text. -/
def laid_math_bits_deBruijn64tab {H : Type} : DataW H := .agg [.lit (.int .u8 0), .lit (.int .u8 1), .lit (.int .u8 56), .lit (.int .u8 2), .lit (.int .u8 57), .lit (.int .u8 49), .lit (.int .u8 28), .lit (.int .u8 3), .lit (.int .u8 61), .lit (.int .u8 58), .lit (.int .u8 42), .lit (.int .u8 50), .lit (.int .u8 38), .lit (.int .u8 29), .lit (.int .u8 17), .lit (.int .u8 4), .lit (.int .u8 62), .lit (.int .u8 47), .lit (.int .u8 59), .lit (.int .u8 36), .lit (.int .u8 45), .lit (.int .u8 43), .lit (.int .u8 51), .lit (.int .u8 22), .lit (.int .u8 53), .lit (.int .u8 39), .lit (.int .u8 33), .lit (.int .u8 30), .lit (.int .u8 24), .lit (.int .u8 18), .lit (.int .u8 12), .lit (.int .u8 5), .lit (.int .u8 63), .lit (.int .u8 55), .lit (.int .u8 48), .lit (.int .u8 27), .lit (.int .u8 60), .lit (.int .u8 41), .lit (.int .u8 37), .lit (.int .u8 16), .lit (.int .u8 46), .lit (.int .u8 35), .lit (.int .u8 44), .lit (.int .u8 21), .lit (.int .u8 52), .lit (.int .u8 32), .lit (.int .u8 23), .lit (.int .u8 11), .lit (.int .u8 54), .lit (.int .u8 26), .lit (.int .u8 40), .lit (.int .u8 15), .lit (.int .u8 34), .lit (.int .u8 20), .lit (.int .u8 31), .lit (.int .u8 10), .lit (.int .u8 25), .lit (.int .u8 14), .lit (.int .u8 19), .lit (.int .u8 9), .lit (.int .u8 13), .lit (.int .u8 8), .lit (.int .u8 7), .lit (.int .u8 6)]
def laid_burnish_intn_widths {H : Type} : DataW H := .agg [.lit (.int .i64 0), .lit (.int .i64 1), .lit (.int .i64 8), .lit (.int .i64 32), .lit (.int .i64 64)]

/-- 'burnishlaw24.WitnessCheck': WHATEVER THE INPUT: true; the input reads as it did. -/
def witnessCheckSpec : ChangeSpec := { name := "witnessCheck", fn := fun _ => fun
  | [d] => { results := [.lit (.bool true)], args := [d] }
  | _ => none }
def witnessCheckRow : OpenClaim := { program := "ytfnbbidogehnfaagreatdoor", sum := "4a0b91c73cd8f40bef9a4b3c4b89a030b080f35a2e02bc81f5eb5c51ac7a86a0", func := "burnish/burnishlaw24.WitnessCheck", spec := "witnessCheck", unfollowed := true, recurses := true, named := ["math/bits.deBruijn64tab", "burnish/intn.widths"], plainKeys := false, apart := false, laid := [("math/bits.deBruijn64tab", laid_math_bits_deBruijn64tab), ("burnish/intn.widths", laid_burnish_intn_widths)] }
def WitnessCheckSaid : Prop := witnessCheckRow.holds Tryz.pinned (OpenSpec.ofChange witnessCheckSpec)

/-- ITS FALSE NEIGHBOUR: 'it returns false'. Refute it at one input. -/
def witnessCheckWrong : ChangeSpec := { name := "witnessCheck", fn := fun _ => fun
  | [d] => { results := [.lit (.bool false)], args := [d] }
  | _ => none }
def WitnessCheckWrongFalsely : Prop := witnessCheckRow.holds Tryz.pinned (OpenSpec.ofChange witnessCheckWrong)

/-- 'burnishlaw24.WitnessDecode': WHATEVER THE INPUT: true; the input reads as it did. -/
def witnessDecodeSpec : ChangeSpec := { name := "witnessDecode", fn := fun _ => fun
  | [d] => { results := [.lit (.bool true)], args := [d] }
  | _ => none }
def witnessDecodeRow : OpenClaim := { program := "ytfnbbidogehnfaagreatdoor", sum := "4a0b91c73cd8f40bef9a4b3c4b89a030b080f35a2e02bc81f5eb5c51ac7a86a0", func := "burnish/burnishlaw24.WitnessDecode", spec := "witnessDecode", unfollowed := true, recurses := true, named := ["math/bits.deBruijn64tab", "burnish/intn.widths"], plainKeys := false, apart := false, laid := [("math/bits.deBruijn64tab", laid_math_bits_deBruijn64tab), ("burnish/intn.widths", laid_burnish_intn_widths)] }
def WitnessDecodeSaid : Prop := witnessDecodeRow.holds Tryz.pinned (OpenSpec.ofChange witnessDecodeSpec)

/-- ITS FALSE NEIGHBOUR: 'it returns false'. Refute it at one input. -/
def witnessDecodeWrong : ChangeSpec := { name := "witnessDecode", fn := fun _ => fun
  | [d] => { results := [.lit (.bool false)], args := [d] }
  | _ => none }
def WitnessDecodeWrongFalsely : Prop := witnessDecodeRow.holds Tryz.pinned (OpenSpec.ofChange witnessDecodeWrong)

/-- 'burnishlaw24.WitnessCutPoints': WHATEVER THE INPUT: true; the input reads as it did. -/
def witnessCutPointsSpec : ChangeSpec := { name := "witnessCutPoints", fn := fun _ => fun
  | [d1, d2] => { results := [.lit (.bool true)], args := [d1, d2] }
  | _ => none }
def witnessCutPointsRow : OpenClaim := { program := "ytfnbbidogehnfaagreatdoor", sum := "4a0b91c73cd8f40bef9a4b3c4b89a030b080f35a2e02bc81f5eb5c51ac7a86a0", func := "burnish/burnishlaw24.WitnessCutPoints", spec := "witnessCutPoints", unfollowed := true, recurses := true, named := ["math/bits.deBruijn64tab", "burnish/intn.widths"], plainKeys := false, apart := false, laid := [("math/bits.deBruijn64tab", laid_math_bits_deBruijn64tab), ("burnish/intn.widths", laid_burnish_intn_widths)] }
def WitnessCutPointsSaid : Prop := witnessCutPointsRow.holds Tryz.pinned (OpenSpec.ofChange witnessCutPointsSpec)

/-- ITS FALSE NEIGHBOUR: 'it returns false'. Refute it at one input. -/
def witnessCutPointsWrong : ChangeSpec := { name := "witnessCutPoints", fn := fun _ => fun
  | [d1, d2] => { results := [.lit (.bool false)], args := [d1, d2] }
  | _ => none }
def WitnessCutPointsWrongFalsely : Prop := witnessCutPointsRow.holds Tryz.pinned (OpenSpec.ofChange witnessCutPointsWrong)

/-- 'burnishlaw24.WitnessIdentity': WHATEVER THE INPUT: true; the input reads as it did. -/
def witnessIdentitySpec : ChangeSpec := { name := "witnessIdentity", fn := fun _ => fun
  | [d1, d2] => { results := [.lit (.bool true)], args := [d1, d2] }
  | _ => none }
def witnessIdentityRow : OpenClaim := { program := "ytfnbbidogehnfaagreatdoor", sum := "4a0b91c73cd8f40bef9a4b3c4b89a030b080f35a2e02bc81f5eb5c51ac7a86a0", func := "burnish/burnishlaw24.WitnessIdentity", spec := "witnessIdentity", unfollowed := true, recurses := true, named := ["math/bits.deBruijn64tab", "burnish/intn.widths"], plainKeys := false, apart := false, laid := [("math/bits.deBruijn64tab", laid_math_bits_deBruijn64tab), ("burnish/intn.widths", laid_burnish_intn_widths)] }
def WitnessIdentitySaid : Prop := witnessIdentityRow.holds Tryz.pinned (OpenSpec.ofChange witnessIdentitySpec)

/-- ITS FALSE NEIGHBOUR: 'it returns false'. Refute it at one input. -/
def witnessIdentityWrong : ChangeSpec := { name := "witnessIdentity", fn := fun _ => fun
  | [d1, d2] => { results := [.lit (.bool false)], args := [d1, d2] }
  | _ => none }
def WitnessIdentityWrongFalsely : Prop := witnessIdentityRow.holds Tryz.pinned (OpenSpec.ofChange witnessIdentityWrong)

/-- 'burnishlaw24.WitnessReflexive': WHATEVER THE INPUT: true; the input reads as it did. -/
def witnessReflexiveSpec : ChangeSpec := { name := "witnessReflexive", fn := fun _ => fun
  | [d1, d2] => { results := [.lit (.bool true)], args := [d1, d2] }
  | _ => none }
def witnessReflexiveRow : OpenClaim := { program := "ytfnbbidogehnfaagreatdoor", sum := "4a0b91c73cd8f40bef9a4b3c4b89a030b080f35a2e02bc81f5eb5c51ac7a86a0", func := "burnish/burnishlaw24.WitnessReflexive", spec := "witnessReflexive", unfollowed := true, recurses := true, named := ["math/bits.deBruijn64tab", "burnish/intn.widths"], plainKeys := false, apart := false, laid := [("math/bits.deBruijn64tab", laid_math_bits_deBruijn64tab), ("burnish/intn.widths", laid_burnish_intn_widths)] }
def WitnessReflexiveSaid : Prop := witnessReflexiveRow.holds Tryz.pinned (OpenSpec.ofChange witnessReflexiveSpec)

/-- ITS FALSE NEIGHBOUR: 'it returns false'. Refute it at one input. -/
def witnessReflexiveWrong : ChangeSpec := { name := "witnessReflexive", fn := fun _ => fun
  | [d1, d2] => { results := [.lit (.bool false)], args := [d1, d2] }
  | _ => none }
def WitnessReflexiveWrongFalsely : Prop := witnessReflexiveRow.holds Tryz.pinned (OpenSpec.ofChange witnessReflexiveWrong)

/-- 'burnishlaw24.WitnessEqual': WHATEVER THE INPUT: true; the input reads as it did. -/
def witnessEqualSpec : ChangeSpec := { name := "witnessEqual", fn := fun _ => fun
  | [d1, d2] => { results := [.lit (.bool true)], args := [d1, d2] }
  | _ => none }
def witnessEqualRow : OpenClaim := { program := "ytfnbbidogehnfaagreatdoor", sum := "4a0b91c73cd8f40bef9a4b3c4b89a030b080f35a2e02bc81f5eb5c51ac7a86a0", func := "burnish/burnishlaw24.WitnessEqual", spec := "witnessEqual", unfollowed := true, recurses := true, named := ["math/bits.deBruijn64tab", "burnish/intn.widths"], plainKeys := false, apart := false, laid := [("math/bits.deBruijn64tab", laid_math_bits_deBruijn64tab), ("burnish/intn.widths", laid_burnish_intn_widths)] }
def WitnessEqualSaid : Prop := witnessEqualRow.holds Tryz.pinned (OpenSpec.ofChange witnessEqualSpec)

/-- ITS FALSE NEIGHBOUR: 'it returns false'. Refute it at one input. -/
def witnessEqualWrong : ChangeSpec := { name := "witnessEqual", fn := fun _ => fun
  | [d1, d2] => { results := [.lit (.bool false)], args := [d1, d2] }
  | _ => none }
def WitnessEqualWrongFalsely : Prop := witnessEqualRow.holds Tryz.pinned (OpenSpec.ofChange witnessEqualWrong)

/-- 'burnishlaw24.WitnessEncode': WHATEVER THE INPUT: true; the input reads as it did. -/
def witnessEncodeSpec : ChangeSpec := { name := "witnessEncode", fn := fun _ => fun
  | [d] => { results := [.lit (.bool true)], args := [d] }
  | _ => none }
def witnessEncodeRow : OpenClaim := { program := "ytfnbbidogehnfaagreatdoor", sum := "4a0b91c73cd8f40bef9a4b3c4b89a030b080f35a2e02bc81f5eb5c51ac7a86a0", func := "burnish/burnishlaw24.WitnessEncode", spec := "witnessEncode", unfollowed := true, recurses := true, named := ["math/bits.deBruijn64tab", "burnish/intn.widths"], plainKeys := false, apart := false, laid := [("math/bits.deBruijn64tab", laid_math_bits_deBruijn64tab), ("burnish/intn.widths", laid_burnish_intn_widths)] }
def WitnessEncodeSaid : Prop := witnessEncodeRow.holds Tryz.pinned (OpenSpec.ofChange witnessEncodeSpec)

/-- ITS FALSE NEIGHBOUR: 'it returns false'. Refute it at one input. -/
def witnessEncodeWrong : ChangeSpec := { name := "witnessEncode", fn := fun _ => fun
  | [d] => { results := [.lit (.bool false)], args := [d] }
  | _ => none }
def WitnessEncodeWrongFalsely : Prop := witnessEncodeRow.holds Tryz.pinned (OpenSpec.ofChange witnessEncodeWrong)

/-- 'burnishlaw24.WitnessRoundTrip': WHATEVER THE INPUT: true; the input reads as it did. -/
def witnessRoundTripSpec : ChangeSpec := { name := "witnessRoundTrip", fn := fun _ => fun
  | [d1, d2] => { results := [.lit (.bool true)], args := [d1, d2] }
  | _ => none }
def witnessRoundTripRow : OpenClaim := { program := "ytfnbbidogehnfaagreatdoor", sum := "4a0b91c73cd8f40bef9a4b3c4b89a030b080f35a2e02bc81f5eb5c51ac7a86a0", func := "burnish/burnishlaw24.WitnessRoundTrip", spec := "witnessRoundTrip", unfollowed := true, recurses := true, named := ["math/bits.deBruijn64tab", "burnish/intn.widths"], plainKeys := false, apart := false, laid := [("math/bits.deBruijn64tab", laid_math_bits_deBruijn64tab), ("burnish/intn.widths", laid_burnish_intn_widths)] }
def WitnessRoundTripSaid : Prop := witnessRoundTripRow.holds Tryz.pinned (OpenSpec.ofChange witnessRoundTripSpec)

/-- ITS FALSE NEIGHBOUR: 'it returns false'. Refute it at one input. -/
def witnessRoundTripWrong : ChangeSpec := { name := "witnessRoundTrip", fn := fun _ => fun
  | [d1, d2] => { results := [.lit (.bool false)], args := [d1, d2] }
  | _ => none }
def WitnessRoundTripWrongFalsely : Prop := witnessRoundTripRow.holds Tryz.pinned (OpenSpec.ofChange witnessRoundTripWrong)

/- THE SECOND FORM. 'bulk': how many values and letters a reading holds, each counted each time it is reached (what is shared counts as often as it is met; a slice's spare places count too). A statement '..UptoSaid' is the law's where the arguments, and the package variables that the reading takes, are together of bulk at most 1048576: NARROWER than '..Said'. Prove '..Said' where nothing that the law and all that it calls make is longer than what came in: it says more and counts as full. Else prove '..UptoSaid'. A law counts once. -/
mutual
def uptoBulk {H : Type} : DataW H → Nat
  | .lit (.string bytes) => bytes.length + 1
  | .lit _ => 1
  | .nil => 1
  | .ptr d => uptoBulk d + 1
  | .slice elems spare => uptoBulkAll elems + uptoBulkAll spare + 1
  | .agg parts => uptoBulkAll parts + 1
  | .iface _ d => uptoBulk d + 1
  | .map entries => uptoBulkEntries entries + 1
  | .held _ => 1
def uptoBulkAll {H : Type} : List (DataW H) → Nat
  | [] => 0
  | d :: r => uptoBulk d + uptoBulkAll r
def uptoBulkEntries {H : Type} : List (Lit × DataW H) → Nat
  | [] => 0
  | x :: r => uptoBulkEntry x + uptoBulkEntries r
def uptoBulkEntry {H : Type} : Lit × DataW H → Nat
  | (.string bytes, d) => bytes.length + uptoBulk d + 1
  | (_, d) => uptoBulk d + 1
 end
def uptoSmall : (H : Type) → List (DataW H) → Bool := fun _ ds => decide (uptoBulkAll ds ≤ 1048576)
def OpenSpec.upto (s : _root_.Go.ChangeSpec) : _root_.Go.OpenSpec := { _root_.Go.OpenSpec.ofChange s with cond := some uptoSmall }

/-- 'burnishlaw24.WitnessCheck', WHERE WHAT IT READS IS OF BULK AT MOST 1048576: true; the input reads as it did. -/
def witnessCheckUptoRow : OpenClaim := { program := "ytfnbbidogehnfaagreatdoor", sum := "4a0b91c73cd8f40bef9a4b3c4b89a030b080f35a2e02bc81f5eb5c51ac7a86a0", func := "burnish/burnishlaw24.WitnessCheck", spec := "witnessCheck", unfollowed := true, recurses := true, named := ["math/bits.deBruijn64tab", "burnish/intn.widths"], plainKeys := false, apart := false, laid := [("math/bits.deBruijn64tab", laid_math_bits_deBruijn64tab), ("burnish/intn.widths", laid_burnish_intn_widths)], narrowed := true }
def WitnessCheckUptoSaid : Prop := witnessCheckUptoRow.holds Tryz.pinned (OpenSpec.upto witnessCheckSpec)

/-- 'burnishlaw24.WitnessDecode', WHERE WHAT IT READS IS OF BULK AT MOST 1048576: true; the input reads as it did. -/
def witnessDecodeUptoRow : OpenClaim := { program := "ytfnbbidogehnfaagreatdoor", sum := "4a0b91c73cd8f40bef9a4b3c4b89a030b080f35a2e02bc81f5eb5c51ac7a86a0", func := "burnish/burnishlaw24.WitnessDecode", spec := "witnessDecode", unfollowed := true, recurses := true, named := ["math/bits.deBruijn64tab", "burnish/intn.widths"], plainKeys := false, apart := false, laid := [("math/bits.deBruijn64tab", laid_math_bits_deBruijn64tab), ("burnish/intn.widths", laid_burnish_intn_widths)], narrowed := true }
def WitnessDecodeUptoSaid : Prop := witnessDecodeUptoRow.holds Tryz.pinned (OpenSpec.upto witnessDecodeSpec)

/-- 'burnishlaw24.WitnessCutPoints', WHERE WHAT IT READS IS OF BULK AT MOST 1048576: true; the input reads as it did. -/
def witnessCutPointsUptoRow : OpenClaim := { program := "ytfnbbidogehnfaagreatdoor", sum := "4a0b91c73cd8f40bef9a4b3c4b89a030b080f35a2e02bc81f5eb5c51ac7a86a0", func := "burnish/burnishlaw24.WitnessCutPoints", spec := "witnessCutPoints", unfollowed := true, recurses := true, named := ["math/bits.deBruijn64tab", "burnish/intn.widths"], plainKeys := false, apart := false, laid := [("math/bits.deBruijn64tab", laid_math_bits_deBruijn64tab), ("burnish/intn.widths", laid_burnish_intn_widths)], narrowed := true }
def WitnessCutPointsUptoSaid : Prop := witnessCutPointsUptoRow.holds Tryz.pinned (OpenSpec.upto witnessCutPointsSpec)

/-- 'burnishlaw24.WitnessIdentity', WHERE WHAT IT READS IS OF BULK AT MOST 1048576: true; the input reads as it did. -/
def witnessIdentityUptoRow : OpenClaim := { program := "ytfnbbidogehnfaagreatdoor", sum := "4a0b91c73cd8f40bef9a4b3c4b89a030b080f35a2e02bc81f5eb5c51ac7a86a0", func := "burnish/burnishlaw24.WitnessIdentity", spec := "witnessIdentity", unfollowed := true, recurses := true, named := ["math/bits.deBruijn64tab", "burnish/intn.widths"], plainKeys := false, apart := false, laid := [("math/bits.deBruijn64tab", laid_math_bits_deBruijn64tab), ("burnish/intn.widths", laid_burnish_intn_widths)], narrowed := true }
def WitnessIdentityUptoSaid : Prop := witnessIdentityUptoRow.holds Tryz.pinned (OpenSpec.upto witnessIdentitySpec)

/-- 'burnishlaw24.WitnessReflexive', WHERE WHAT IT READS IS OF BULK AT MOST 1048576: true; the input reads as it did. -/
def witnessReflexiveUptoRow : OpenClaim := { program := "ytfnbbidogehnfaagreatdoor", sum := "4a0b91c73cd8f40bef9a4b3c4b89a030b080f35a2e02bc81f5eb5c51ac7a86a0", func := "burnish/burnishlaw24.WitnessReflexive", spec := "witnessReflexive", unfollowed := true, recurses := true, named := ["math/bits.deBruijn64tab", "burnish/intn.widths"], plainKeys := false, apart := false, laid := [("math/bits.deBruijn64tab", laid_math_bits_deBruijn64tab), ("burnish/intn.widths", laid_burnish_intn_widths)], narrowed := true }
def WitnessReflexiveUptoSaid : Prop := witnessReflexiveUptoRow.holds Tryz.pinned (OpenSpec.upto witnessReflexiveSpec)

/-- 'burnishlaw24.WitnessEqual', WHERE WHAT IT READS IS OF BULK AT MOST 1048576: true; the input reads as it did. -/
def witnessEqualUptoRow : OpenClaim := { program := "ytfnbbidogehnfaagreatdoor", sum := "4a0b91c73cd8f40bef9a4b3c4b89a030b080f35a2e02bc81f5eb5c51ac7a86a0", func := "burnish/burnishlaw24.WitnessEqual", spec := "witnessEqual", unfollowed := true, recurses := true, named := ["math/bits.deBruijn64tab", "burnish/intn.widths"], plainKeys := false, apart := false, laid := [("math/bits.deBruijn64tab", laid_math_bits_deBruijn64tab), ("burnish/intn.widths", laid_burnish_intn_widths)], narrowed := true }
def WitnessEqualUptoSaid : Prop := witnessEqualUptoRow.holds Tryz.pinned (OpenSpec.upto witnessEqualSpec)

/-- 'burnishlaw24.WitnessEncode', WHERE WHAT IT READS IS OF BULK AT MOST 1048576: true; the input reads as it did. -/
def witnessEncodeUptoRow : OpenClaim := { program := "ytfnbbidogehnfaagreatdoor", sum := "4a0b91c73cd8f40bef9a4b3c4b89a030b080f35a2e02bc81f5eb5c51ac7a86a0", func := "burnish/burnishlaw24.WitnessEncode", spec := "witnessEncode", unfollowed := true, recurses := true, named := ["math/bits.deBruijn64tab", "burnish/intn.widths"], plainKeys := false, apart := false, laid := [("math/bits.deBruijn64tab", laid_math_bits_deBruijn64tab), ("burnish/intn.widths", laid_burnish_intn_widths)], narrowed := true }
def WitnessEncodeUptoSaid : Prop := witnessEncodeUptoRow.holds Tryz.pinned (OpenSpec.upto witnessEncodeSpec)

/-- 'burnishlaw24.WitnessRoundTrip', WHERE WHAT IT READS IS OF BULK AT MOST 1048576: true; the input reads as it did. -/
def witnessRoundTripUptoRow : OpenClaim := { program := "ytfnbbidogehnfaagreatdoor", sum := "4a0b91c73cd8f40bef9a4b3c4b89a030b080f35a2e02bc81f5eb5c51ac7a86a0", func := "burnish/burnishlaw24.WitnessRoundTrip", spec := "witnessRoundTrip", unfollowed := true, recurses := true, named := ["math/bits.deBruijn64tab", "burnish/intn.widths"], plainKeys := false, apart := false, laid := [("math/bits.deBruijn64tab", laid_math_bits_deBruijn64tab), ("burnish/intn.widths", laid_burnish_intn_widths)], narrowed := true }
def WitnessRoundTripUptoSaid : Prop := witnessRoundTripUptoRow.holds Tryz.pinned (OpenSpec.upto witnessRoundTripSpec)

end Rows
end Go.Proofs.YtfnbbidogehnfaaGreatDoor
