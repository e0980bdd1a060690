/-
  NARROWER THAN 'FOR EVERY INPUT', by the rows' own cells (each row's printed sentence says how): RefineOutcomes: laid · RefineValues: laid · RefineSteps: laid · RefineOrder: laid · RefineGlobals: laid.
  DERIVED. THE GIVEN ROWS OF THIS SEAT. 5 by the template 'for every input the law returns true; each argument reads behind the call as it read before'; 0 by the template 'total and deterministic' (their statements: YtlgjdeickldcpaaDoorTotals.lean).
  GIVEN WITH THE SEED: the statements are not yours to turn. If you find one false, say at which input.
  Laid BY PROGRAM, IN A SANDBOX (cutbox-rows.mjs): the forced cells as the released guide's own fill.sh prints them over the translation 30a3a48ecf19905d… (all of the seat's roots in one cut). By AI agents, Wed Nov 11 2026. No macro, syntax, notation, axiom, sorry.
-/
import Derived.Test.YtlgjdeickldcpaaDoorChecked
import GoSem.Claim
import GoSem.ClaimJoined
import GoSem.ClaimMapViews
import Derived.JoinedTies
import Derived.KernelRfl
namespace Go.Proofs.YtlgjdeickldcpaaDoor
/- THE CELL 'sum', in the pinned program and in every row, IS THE sha256 OF THE DUMP (.gsa) THAT YtlgjdeickldcpaaDoorProg.lean LOADS. Nothing in Lean hashes anything: it is a label: what it is worth is what the hold of that sum in a sandbox is worth. -/
noncomputable def Tryd.pinned : Pinned := { name := "ytlgjdeickldcpaadoor", sum := "30a3a48ecf19905d977d27ffbe3a5f84e169a0223a7b818aee57b1d8cf312213", checked := Tryd.checked }
namespace Rows
def none {H : Type} : Left H := { results := [], args := [] }

/- WHAT THE LISTED PACKAGE-LEVEL VARIABLES READ AS WHEN THE CALL BEGINS. Each datum BY PROGRAM (the guide's laid-datum.mjs) off the statement by which the dump's own 'gosem.cut.vars' lays the variable. In a bare row this is a premise. The card (YtlgjdeickldcpaaDoorCards.lean) ties it to the program's text. -/
def laid_burnish_intn_widths {H : Type} : DataW H := .agg [.lit (.int .i64 0), .lit (.int .i64 1), .lit (.int .i64 8), .lit (.int .i64 32), .lit (.int .i64 64)]
def laid_burnish_value_poison {H : Type} : DataW H := .agg [.lit (.int .i64 0), .lit (.bool true), .lit (.bool false)]
def laid_burnish_value_unknown {H : Type} : DataW H := .agg [.lit (.int .i64 0), .lit (.bool false), .lit (.bool true)]

/-- 'burnishlaw19.RefineOutcomes': WHATEVER THE INPUT: true; the input reads as it did. -/
def refineOutcomesSpec : ChangeSpec := { name := "refineOutcomes", fn := fun _ => fun
  | [d1, d2] => { results := [.lit (.bool true)], args := [d1, d2] }
  | _ => none }
def refineOutcomesRow : OpenClaim := { program := "ytlgjdeickldcpaadoor", sum := "30a3a48ecf19905d977d27ffbe3a5f84e169a0223a7b818aee57b1d8cf312213", func := "burnish/burnishlaw19.RefineOutcomes", spec := "refineOutcomes", unfollowed := true, recurses := true, named := ["burnish/intn.widths", "burnish/value.poison", "burnish/value.unknown"], apart := false, laid := [("burnish/intn.widths", laid_burnish_intn_widths), ("burnish/value.poison", laid_burnish_value_poison), ("burnish/value.unknown", laid_burnish_value_unknown)] }
def RefineOutcomesSaid : Prop := refineOutcomesRow.holds Tryd.pinned (OpenSpec.ofChange refineOutcomesSpec)

/-- ITS FALSE NEIGHBOUR: 'it returns false'. Refute it at one input. -/
def refineOutcomesWrong : ChangeSpec := { name := "refineOutcomes", fn := fun _ => fun
  | [d1, d2] => { results := [.lit (.bool false)], args := [d1, d2] }
  | _ => none }
def RefineOutcomesWrongFalsely : Prop := refineOutcomesRow.holds Tryd.pinned (OpenSpec.ofChange refineOutcomesWrong)

/-- 'burnishlaw19.RefineValues': WHATEVER THE INPUT: true; the input reads as it did. -/
def refineValuesSpec : ChangeSpec := { name := "refineValues", fn := fun _ => fun
  | [d1, d2] => { results := [.lit (.bool true)], args := [d1, d2] }
  | _ => none }
def refineValuesRow : OpenClaim := { program := "ytlgjdeickldcpaadoor", sum := "30a3a48ecf19905d977d27ffbe3a5f84e169a0223a7b818aee57b1d8cf312213", func := "burnish/burnishlaw19.RefineValues", spec := "refineValues", unfollowed := true, recurses := true, named := ["burnish/intn.widths", "burnish/value.poison", "burnish/value.unknown"], apart := false, laid := [("burnish/intn.widths", laid_burnish_intn_widths), ("burnish/value.poison", laid_burnish_value_poison), ("burnish/value.unknown", laid_burnish_value_unknown)] }
def RefineValuesSaid : Prop := refineValuesRow.holds Tryd.pinned (OpenSpec.ofChange refineValuesSpec)

/-- ITS FALSE NEIGHBOUR: 'it returns false'. Refute it at one input. -/
def refineValuesWrong : ChangeSpec := { name := "refineValues", fn := fun _ => fun
  | [d1, d2] => { results := [.lit (.bool false)], args := [d1, d2] }
  | _ => none }
def RefineValuesWrongFalsely : Prop := refineValuesRow.holds Tryd.pinned (OpenSpec.ofChange refineValuesWrong)

/-- 'burnishlaw19.RefineSteps': WHATEVER THE INPUT: true; the input reads as it did. -/
def refineStepsSpec : ChangeSpec := { name := "refineSteps", fn := fun _ => fun
  | [d1, d2, d3] => { results := [.lit (.bool true)], args := [d1, d2, d3] }
  | _ => none }
def refineStepsRow : OpenClaim := { program := "ytlgjdeickldcpaadoor", sum := "30a3a48ecf19905d977d27ffbe3a5f84e169a0223a7b818aee57b1d8cf312213", func := "burnish/burnishlaw19.RefineSteps", spec := "refineSteps", unfollowed := true, recurses := true, named := ["burnish/intn.widths", "burnish/value.poison", "burnish/value.unknown"], apart := false, laid := [("burnish/intn.widths", laid_burnish_intn_widths), ("burnish/value.poison", laid_burnish_value_poison), ("burnish/value.unknown", laid_burnish_value_unknown)] }
def RefineStepsSaid : Prop := refineStepsRow.holds Tryd.pinned (OpenSpec.ofChange refineStepsSpec)

/-- ITS FALSE NEIGHBOUR: 'it returns false'. Refute it at one input. -/
def refineStepsWrong : ChangeSpec := { name := "refineSteps", fn := fun _ => fun
  | [d1, d2, d3] => { results := [.lit (.bool false)], args := [d1, d2, d3] }
  | _ => none }
def RefineStepsWrongFalsely : Prop := refineStepsRow.holds Tryd.pinned (OpenSpec.ofChange refineStepsWrong)

/-- 'burnishlaw19.RefineOrder': WHATEVER THE INPUT: true; the input reads as it did. -/
def refineOrderSpec : ChangeSpec := { name := "refineOrder", fn := fun _ => fun
  | [d] => { results := [.lit (.bool true)], args := [d] }
  | _ => none }
def refineOrderRow : OpenClaim := { program := "ytlgjdeickldcpaadoor", sum := "30a3a48ecf19905d977d27ffbe3a5f84e169a0223a7b818aee57b1d8cf312213", func := "burnish/burnishlaw19.RefineOrder", spec := "refineOrder", unfollowed := true, recurses := true, named := ["burnish/intn.widths", "burnish/value.poison", "burnish/value.unknown"], apart := false, laid := [("burnish/intn.widths", laid_burnish_intn_widths), ("burnish/value.poison", laid_burnish_value_poison), ("burnish/value.unknown", laid_burnish_value_unknown)] }
def RefineOrderSaid : Prop := refineOrderRow.holds Tryd.pinned (OpenSpec.ofChange refineOrderSpec)

/-- ITS FALSE NEIGHBOUR: 'it returns false'. Refute it at one input. -/
def refineOrderWrong : ChangeSpec := { name := "refineOrder", fn := fun _ => fun
  | [d] => { results := [.lit (.bool false)], args := [d] }
  | _ => none }
def RefineOrderWrongFalsely : Prop := refineOrderRow.holds Tryd.pinned (OpenSpec.ofChange refineOrderWrong)

/-- 'burnishlaw19.RefineGlobals': WHATEVER THE INPUT: true; the input reads as it did. -/
def refineGlobalsSpec : ChangeSpec := { name := "refineGlobals", fn := fun _ => fun
  | [d1, d2, d3] => { results := [.lit (.bool true)], args := [d1, d2, d3] }
  | _ => none }
def refineGlobalsRow : OpenClaim := { program := "ytlgjdeickldcpaadoor", sum := "30a3a48ecf19905d977d27ffbe3a5f84e169a0223a7b818aee57b1d8cf312213", func := "burnish/burnishlaw19.RefineGlobals", spec := "refineGlobals", unfollowed := true, recurses := true, named := ["burnish/intn.widths", "burnish/value.poison", "burnish/value.unknown"], apart := false, laid := [("burnish/intn.widths", laid_burnish_intn_widths), ("burnish/value.poison", laid_burnish_value_poison), ("burnish/value.unknown", laid_burnish_value_unknown)] }
def RefineGlobalsSaid : Prop := refineGlobalsRow.holds Tryd.pinned (OpenSpec.ofChange refineGlobalsSpec)

/-- ITS FALSE NEIGHBOUR: 'it returns false'. Refute it at one input. -/
def refineGlobalsWrong : ChangeSpec := { name := "refineGlobals", fn := fun _ => fun
  | [d1, d2, d3] => { results := [.lit (.bool false)], args := [d1, d2, d3] }
  | _ => none }
def RefineGlobalsWrongFalsely : Prop := refineGlobalsRow.holds Tryd.pinned (OpenSpec.ofChange refineGlobalsWrong)

/- THE SECOND FORM. 'bulk': how many values and letters a reading holds, each counted each time it is reached (what is shared counts as often as it is met; a slice's spare places count too). A statement '..UptoSaid' is the law's where the arguments, and the package variables that the reading takes, are together of bulk at most 1048576: NARROWER than '..Said'. Prove '..Said' where nothing that the law and all that it calls make is longer than what came in: it says more and counts as full. Else prove '..UptoSaid'. A law counts once. -/
mutual
def uptoBulk {H : Type} : DataW H → Nat
  | .lit (.string bytes) => bytes.length + 1
  | .lit _ => 1
  | .nil => 1
  | .ptr d => uptoBulk d + 1
  | .slice elems spare => uptoBulkAll elems + uptoBulkAll spare + 1
  | .agg parts => uptoBulkAll parts + 1
  | .iface _ d => uptoBulk d + 1
  | .map entries => uptoBulkEntries entries + 1
  | .held _ => 1
def uptoBulkAll {H : Type} : List (DataW H) → Nat
  | [] => 0
  | d :: r => uptoBulk d + uptoBulkAll r
def uptoBulkEntries {H : Type} : List (Lit × DataW H) → Nat
  | [] => 0
  | x :: r => uptoBulkEntry x + uptoBulkEntries r
def uptoBulkEntry {H : Type} : Lit × DataW H → Nat
  | (.string bytes, d) => bytes.length + uptoBulk d + 1
  | (_, d) => uptoBulk d + 1
 end
def uptoSmall : (H : Type) → List (DataW H) → Bool := fun _ ds => decide (uptoBulkAll ds ≤ 1048576)
def OpenSpec.upto (s : _root_.Go.ChangeSpec) : _root_.Go.OpenSpec := { _root_.Go.OpenSpec.ofChange s with cond := some uptoSmall }

/-- 'burnishlaw19.RefineOutcomes', WHERE WHAT IT READS IS OF BULK AT MOST 1048576: true; the input reads as it did. -/
def refineOutcomesUptoRow : OpenClaim := { program := "ytlgjdeickldcpaadoor", sum := "30a3a48ecf19905d977d27ffbe3a5f84e169a0223a7b818aee57b1d8cf312213", func := "burnish/burnishlaw19.RefineOutcomes", spec := "refineOutcomes", unfollowed := true, recurses := true, named := ["burnish/intn.widths", "burnish/value.poison", "burnish/value.unknown"], apart := false, laid := [("burnish/intn.widths", laid_burnish_intn_widths), ("burnish/value.poison", laid_burnish_value_poison), ("burnish/value.unknown", laid_burnish_value_unknown)], narrowed := true }
def RefineOutcomesUptoSaid : Prop := refineOutcomesUptoRow.holds Tryd.pinned (OpenSpec.upto refineOutcomesSpec)

/-- 'burnishlaw19.RefineValues', WHERE WHAT IT READS IS OF BULK AT MOST 1048576: true; the input reads as it did. -/
def refineValuesUptoRow : OpenClaim := { program := "ytlgjdeickldcpaadoor", sum := "30a3a48ecf19905d977d27ffbe3a5f84e169a0223a7b818aee57b1d8cf312213", func := "burnish/burnishlaw19.RefineValues", spec := "refineValues", unfollowed := true, recurses := true, named := ["burnish/intn.widths", "burnish/value.poison", "burnish/value.unknown"], apart := false, laid := [("burnish/intn.widths", laid_burnish_intn_widths), ("burnish/value.poison", laid_burnish_value_poison), ("burnish/value.unknown", laid_burnish_value_unknown)], narrowed := true }
def RefineValuesUptoSaid : Prop := refineValuesUptoRow.holds Tryd.pinned (OpenSpec.upto refineValuesSpec)

/-- 'burnishlaw19.RefineSteps', WHERE WHAT IT READS IS OF BULK AT MOST 1048576: true; the input reads as it did. -/
def refineStepsUptoRow : OpenClaim := { program := "ytlgjdeickldcpaadoor", sum := "30a3a48ecf19905d977d27ffbe3a5f84e169a0223a7b818aee57b1d8cf312213", func := "burnish/burnishlaw19.RefineSteps", spec := "refineSteps", unfollowed := true, recurses := true, named := ["burnish/intn.widths", "burnish/value.poison", "burnish/value.unknown"], apart := false, laid := [("burnish/intn.widths", laid_burnish_intn_widths), ("burnish/value.poison", laid_burnish_value_poison), ("burnish/value.unknown", laid_burnish_value_unknown)], narrowed := true }
def RefineStepsUptoSaid : Prop := refineStepsUptoRow.holds Tryd.pinned (OpenSpec.upto refineStepsSpec)

/-- 'burnishlaw19.RefineOrder', WHERE WHAT IT READS IS OF BULK AT MOST 1048576: true; the input reads as it did. -/
def refineOrderUptoRow : OpenClaim := { program := "ytlgjdeickldcpaadoor", sum := "30a3a48ecf19905d977d27ffbe3a5f84e169a0223a7b818aee57b1d8cf312213", func := "burnish/burnishlaw19.RefineOrder", spec := "refineOrder", unfollowed := true, recurses := true, named := ["burnish/intn.widths", "burnish/value.poison", "burnish/value.unknown"], apart := false, laid := [("burnish/intn.widths", laid_burnish_intn_widths), ("burnish/value.poison", laid_burnish_value_poison), ("burnish/value.unknown", laid_burnish_value_unknown)], narrowed := true }
def RefineOrderUptoSaid : Prop := refineOrderUptoRow.holds Tryd.pinned (OpenSpec.upto refineOrderSpec)

/-- 'burnishlaw19.RefineGlobals', WHERE WHAT IT READS IS OF BULK AT MOST 1048576: true; the input reads as it did. -/
def refineGlobalsUptoRow : OpenClaim := { program := "ytlgjdeickldcpaadoor", sum := "30a3a48ecf19905d977d27ffbe3a5f84e169a0223a7b818aee57b1d8cf312213", func := "burnish/burnishlaw19.RefineGlobals", spec := "refineGlobals", unfollowed := true, recurses := true, named := ["burnish/intn.widths", "burnish/value.poison", "burnish/value.unknown"], apart := false, laid := [("burnish/intn.widths", laid_burnish_intn_widths), ("burnish/value.poison", laid_burnish_value_poison), ("burnish/value.unknown", laid_burnish_value_unknown)], narrowed := true }
def RefineGlobalsUptoSaid : Prop := refineGlobalsUptoRow.holds Tryd.pinned (OpenSpec.upto refineGlobalsSpec)

end Rows
end Go.Proofs.YtlgjdeickldcpaaDoor
