/-
  NARROWER THAN 'FOR EVERY INPUT', by the rows' own cells (each row's printed sentence says how): IntnWraps: laid · IntnCompares: laid · IntnShifts: laid · IntnSums: laid · IntnRing: laid · IntnDivides: laid.
  DERIVED. THE GIVEN ROWS OF THIS SEAT. 6 by the template 'for every input the law returns true; each argument reads behind the call as it read before'; 0 by the template 'total and deterministic' (their statements: YthdkgphnleibmaaDoorTotals.lean).
  GIVEN WITH THE SEED: the statements are not yours to turn. If you find one false, say at which input.
  Laid BY PROGRAM, IN A SANDBOX (cutbox-rows.mjs): the forced cells as the released guide's own fill.sh prints them over the translation 3a8bf9503c01bb17… (all of the seat's roots in one cut). By AI agents, Wed Nov 11 2026. No macro, syntax, notation, axiom, sorry.
-/
import Derived.Test.YthdkgphnleibmaaDoorChecked
import GoSem.Claim
import GoSem.ClaimJoined
import GoSem.ClaimMapViews
import Derived.JoinedTies
import Derived.KernelRfl
namespace Go.Proofs.YthdkgphnleibmaaDoor
/- THE CELL 'sum', in the pinned program and in every row, IS THE sha256 OF THE DUMP (.gsa) THAT YthdkgphnleibmaaDoorProg.lean LOADS. Nothing in Lean hashes anything: it is a label: what it is worth is what the hold of that sum in a sandbox is worth. -/
noncomputable def Tryd.pinned : Pinned := { name := "ythdkgphnleibmaadoor", sum := "3a8bf9503c01bb17baaec6addfb93a3282e60ec9bb2ae3366f81e90ecbad45fa", checked := Tryd.checked }
namespace Rows
def none {H : Type} : Left H := { results := [], args := [] }

/- WHAT THE LISTED PACKAGE-LEVEL VARIABLES READ AS WHEN THE CALL BEGINS. Each datum BY PROGRAM (the guide's laid-datum.mjs) off the statement by which the dump's own 'gosem.cut.vars' lays the variable. In a bare row this is a premise. The card (YthdkgphnleibmaaDoorCards.lean) ties it to the program's text. -/
def laid_burnish_intn_widths {H : Type} : DataW H := .agg [.lit (.int .i64 0), .lit (.int .i64 1), .lit (.int .i64 8), .lit (.int .i64 32), .lit (.int .i64 64)]

/-- 'burnishlaw01.IntnWraps': WHATEVER THE INPUT: true; the input reads as it did. -/
def intnWrapsSpec : ChangeSpec := { name := "intnWraps", fn := fun _ => fun
  | [d1, d2] => { results := [.lit (.bool true)], args := [d1, d2] }
  | _ => none }
def intnWrapsRow : OpenClaim := { program := "ythdkgphnleibmaadoor", sum := "3a8bf9503c01bb17baaec6addfb93a3282e60ec9bb2ae3366f81e90ecbad45fa", func := "burnish/burnishlaw01.IntnWraps", spec := "intnWraps", unfollowed := true, recurses := true, named := ["burnish/intn.widths"], apart := false, laid := [("burnish/intn.widths", laid_burnish_intn_widths)] }
def IntnWrapsSaid : Prop := intnWrapsRow.holds Tryd.pinned (OpenSpec.ofChange intnWrapsSpec)

/-- ITS FALSE NEIGHBOUR: 'it returns false'. Refute it at one input. -/
def intnWrapsWrong : ChangeSpec := { name := "intnWraps", fn := fun _ => fun
  | [d1, d2] => { results := [.lit (.bool false)], args := [d1, d2] }
  | _ => none }
def IntnWrapsWrongFalsely : Prop := intnWrapsRow.holds Tryd.pinned (OpenSpec.ofChange intnWrapsWrong)

/-- 'burnishlaw01.IntnCompares': WHATEVER THE INPUT: true; the input reads as it did. -/
def intnComparesSpec : ChangeSpec := { name := "intnCompares", fn := fun _ => fun
  | [d1, d2, d3] => { results := [.lit (.bool true)], args := [d1, d2, d3] }
  | _ => none }
def intnComparesRow : OpenClaim := { program := "ythdkgphnleibmaadoor", sum := "3a8bf9503c01bb17baaec6addfb93a3282e60ec9bb2ae3366f81e90ecbad45fa", func := "burnish/burnishlaw01.IntnCompares", spec := "intnCompares", unfollowed := true, recurses := true, named := ["burnish/intn.widths"], apart := false, laid := [("burnish/intn.widths", laid_burnish_intn_widths)] }
def IntnComparesSaid : Prop := intnComparesRow.holds Tryd.pinned (OpenSpec.ofChange intnComparesSpec)

/-- ITS FALSE NEIGHBOUR: 'it returns false'. Refute it at one input. -/
def intnComparesWrong : ChangeSpec := { name := "intnCompares", fn := fun _ => fun
  | [d1, d2, d3] => { results := [.lit (.bool false)], args := [d1, d2, d3] }
  | _ => none }
def IntnComparesWrongFalsely : Prop := intnComparesRow.holds Tryd.pinned (OpenSpec.ofChange intnComparesWrong)

/-- 'burnishlaw01.IntnShifts': WHATEVER THE INPUT: true; the input reads as it did. -/
def intnShiftsSpec : ChangeSpec := { name := "intnShifts", fn := fun _ => fun
  | [d1, d2, d3] => { results := [.lit (.bool true)], args := [d1, d2, d3] }
  | _ => none }
def intnShiftsRow : OpenClaim := { program := "ythdkgphnleibmaadoor", sum := "3a8bf9503c01bb17baaec6addfb93a3282e60ec9bb2ae3366f81e90ecbad45fa", func := "burnish/burnishlaw01.IntnShifts", spec := "intnShifts", unfollowed := true, recurses := true, named := ["burnish/intn.widths"], apart := false, laid := [("burnish/intn.widths", laid_burnish_intn_widths)] }
def IntnShiftsSaid : Prop := intnShiftsRow.holds Tryd.pinned (OpenSpec.ofChange intnShiftsSpec)

/-- ITS FALSE NEIGHBOUR: 'it returns false'. Refute it at one input. -/
def intnShiftsWrong : ChangeSpec := { name := "intnShifts", fn := fun _ => fun
  | [d1, d2, d3] => { results := [.lit (.bool false)], args := [d1, d2, d3] }
  | _ => none }
def IntnShiftsWrongFalsely : Prop := intnShiftsRow.holds Tryd.pinned (OpenSpec.ofChange intnShiftsWrong)

/-- 'burnishlaw01.IntnSums': WHATEVER THE INPUT: true; the input reads as it did. -/
def intnSumsSpec : ChangeSpec := { name := "intnSums", fn := fun _ => fun
  | [d1, d2, d3] => { results := [.lit (.bool true)], args := [d1, d2, d3] }
  | _ => none }
def intnSumsRow : OpenClaim := { program := "ythdkgphnleibmaadoor", sum := "3a8bf9503c01bb17baaec6addfb93a3282e60ec9bb2ae3366f81e90ecbad45fa", func := "burnish/burnishlaw01.IntnSums", spec := "intnSums", unfollowed := true, recurses := true, named := ["burnish/intn.widths"], apart := false, laid := [("burnish/intn.widths", laid_burnish_intn_widths)] }
def IntnSumsSaid : Prop := intnSumsRow.holds Tryd.pinned (OpenSpec.ofChange intnSumsSpec)

/-- ITS FALSE NEIGHBOUR: 'it returns false'. Refute it at one input. -/
def intnSumsWrong : ChangeSpec := { name := "intnSums", fn := fun _ => fun
  | [d1, d2, d3] => { results := [.lit (.bool false)], args := [d1, d2, d3] }
  | _ => none }
def IntnSumsWrongFalsely : Prop := intnSumsRow.holds Tryd.pinned (OpenSpec.ofChange intnSumsWrong)

/-- 'burnishlaw01.IntnRing': WHATEVER THE INPUT: true; the input reads as it did. -/
def intnRingSpec : ChangeSpec := { name := "intnRing", fn := fun _ => fun
  | [d1, d2] => { results := [.lit (.bool true)], args := [d1, d2] }
  | _ => none }
def intnRingRow : OpenClaim := { program := "ythdkgphnleibmaadoor", sum := "3a8bf9503c01bb17baaec6addfb93a3282e60ec9bb2ae3366f81e90ecbad45fa", func := "burnish/burnishlaw01.IntnRing", spec := "intnRing", unfollowed := true, recurses := true, named := ["burnish/intn.widths"], apart := false, laid := [("burnish/intn.widths", laid_burnish_intn_widths)] }
def IntnRingSaid : Prop := intnRingRow.holds Tryd.pinned (OpenSpec.ofChange intnRingSpec)

/-- ITS FALSE NEIGHBOUR: 'it returns false'. Refute it at one input. -/
def intnRingWrong : ChangeSpec := { name := "intnRing", fn := fun _ => fun
  | [d1, d2] => { results := [.lit (.bool false)], args := [d1, d2] }
  | _ => none }
def IntnRingWrongFalsely : Prop := intnRingRow.holds Tryd.pinned (OpenSpec.ofChange intnRingWrong)

/-- 'burnishlaw01.IntnDivides': WHATEVER THE INPUT: true; the input reads as it did. -/
def intnDividesSpec : ChangeSpec := { name := "intnDivides", fn := fun _ => fun
  | [d1, d2, d3] => { results := [.lit (.bool true)], args := [d1, d2, d3] }
  | _ => none }
def intnDividesRow : OpenClaim := { program := "ythdkgphnleibmaadoor", sum := "3a8bf9503c01bb17baaec6addfb93a3282e60ec9bb2ae3366f81e90ecbad45fa", func := "burnish/burnishlaw01.IntnDivides", spec := "intnDivides", unfollowed := true, recurses := true, named := ["burnish/intn.widths"], apart := false, laid := [("burnish/intn.widths", laid_burnish_intn_widths)] }
def IntnDividesSaid : Prop := intnDividesRow.holds Tryd.pinned (OpenSpec.ofChange intnDividesSpec)

/-- ITS FALSE NEIGHBOUR: 'it returns false'. Refute it at one input. -/
def intnDividesWrong : ChangeSpec := { name := "intnDivides", fn := fun _ => fun
  | [d1, d2, d3] => { results := [.lit (.bool false)], args := [d1, d2, d3] }
  | _ => none }
def IntnDividesWrongFalsely : Prop := intnDividesRow.holds Tryd.pinned (OpenSpec.ofChange intnDividesWrong)

/- THE SECOND FORM. 'bulk': how many values and letters a reading holds, each counted each time it is reached (what is shared counts as often as it is met; a slice's spare places count too). A statement '..UptoSaid' is the law's where the arguments, and the package variables that the reading takes, are together of bulk at most 1048576: NARROWER than '..Said'. Prove '..Said' where nothing that the law and all that it calls make is longer than what came in: it says more and counts as full. Else prove '..UptoSaid'. A law counts once. -/
mutual
def uptoBulk {H : Type} : DataW H → Nat
  | .lit (.string bytes) => bytes.length + 1
  | .lit _ => 1
  | .nil => 1
  | .ptr d => uptoBulk d + 1
  | .slice elems spare => uptoBulkAll elems + uptoBulkAll spare + 1
  | .agg parts => uptoBulkAll parts + 1
  | .iface _ d => uptoBulk d + 1
  | .map entries => uptoBulkEntries entries + 1
  | .held _ => 1
def uptoBulkAll {H : Type} : List (DataW H) → Nat
  | [] => 0
  | d :: r => uptoBulk d + uptoBulkAll r
def uptoBulkEntries {H : Type} : List (Lit × DataW H) → Nat
  | [] => 0
  | x :: r => uptoBulkEntry x + uptoBulkEntries r
def uptoBulkEntry {H : Type} : Lit × DataW H → Nat
  | (.string bytes, d) => bytes.length + uptoBulk d + 1
  | (_, d) => uptoBulk d + 1
 end
def uptoSmall : (H : Type) → List (DataW H) → Bool := fun _ ds => decide (uptoBulkAll ds ≤ 1048576)
def OpenSpec.upto (s : _root_.Go.ChangeSpec) : _root_.Go.OpenSpec := { _root_.Go.OpenSpec.ofChange s with cond := some uptoSmall }

/-- 'burnishlaw01.IntnWraps', WHERE WHAT IT READS IS OF BULK AT MOST 1048576: true; the input reads as it did. -/
def intnWrapsUptoRow : OpenClaim := { program := "ythdkgphnleibmaadoor", sum := "3a8bf9503c01bb17baaec6addfb93a3282e60ec9bb2ae3366f81e90ecbad45fa", func := "burnish/burnishlaw01.IntnWraps", spec := "intnWraps", unfollowed := true, recurses := true, named := ["burnish/intn.widths"], apart := false, laid := [("burnish/intn.widths", laid_burnish_intn_widths)], narrowed := true }
def IntnWrapsUptoSaid : Prop := intnWrapsUptoRow.holds Tryd.pinned (OpenSpec.upto intnWrapsSpec)

/-- 'burnishlaw01.IntnCompares', WHERE WHAT IT READS IS OF BULK AT MOST 1048576: true; the input reads as it did. -/
def intnComparesUptoRow : OpenClaim := { program := "ythdkgphnleibmaadoor", sum := "3a8bf9503c01bb17baaec6addfb93a3282e60ec9bb2ae3366f81e90ecbad45fa", func := "burnish/burnishlaw01.IntnCompares", spec := "intnCompares", unfollowed := true, recurses := true, named := ["burnish/intn.widths"], apart := false, laid := [("burnish/intn.widths", laid_burnish_intn_widths)], narrowed := true }
def IntnComparesUptoSaid : Prop := intnComparesUptoRow.holds Tryd.pinned (OpenSpec.upto intnComparesSpec)

/-- 'burnishlaw01.IntnShifts', WHERE WHAT IT READS IS OF BULK AT MOST 1048576: true; the input reads as it did. -/
def intnShiftsUptoRow : OpenClaim := { program := "ythdkgphnleibmaadoor", sum := "3a8bf9503c01bb17baaec6addfb93a3282e60ec9bb2ae3366f81e90ecbad45fa", func := "burnish/burnishlaw01.IntnShifts", spec := "intnShifts", unfollowed := true, recurses := true, named := ["burnish/intn.widths"], apart := false, laid := [("burnish/intn.widths", laid_burnish_intn_widths)], narrowed := true }
def IntnShiftsUptoSaid : Prop := intnShiftsUptoRow.holds Tryd.pinned (OpenSpec.upto intnShiftsSpec)

/-- 'burnishlaw01.IntnSums', WHERE WHAT IT READS IS OF BULK AT MOST 1048576: true; the input reads as it did. -/
def intnSumsUptoRow : OpenClaim := { program := "ythdkgphnleibmaadoor", sum := "3a8bf9503c01bb17baaec6addfb93a3282e60ec9bb2ae3366f81e90ecbad45fa", func := "burnish/burnishlaw01.IntnSums", spec := "intnSums", unfollowed := true, recurses := true, named := ["burnish/intn.widths"], apart := false, laid := [("burnish/intn.widths", laid_burnish_intn_widths)], narrowed := true }
def IntnSumsUptoSaid : Prop := intnSumsUptoRow.holds Tryd.pinned (OpenSpec.upto intnSumsSpec)

/-- 'burnishlaw01.IntnRing', WHERE WHAT IT READS IS OF BULK AT MOST 1048576: true; the input reads as it did. -/
def intnRingUptoRow : OpenClaim := { program := "ythdkgphnleibmaadoor", sum := "3a8bf9503c01bb17baaec6addfb93a3282e60ec9bb2ae3366f81e90ecbad45fa", func := "burnish/burnishlaw01.IntnRing", spec := "intnRing", unfollowed := true, recurses := true, named := ["burnish/intn.widths"], apart := false, laid := [("burnish/intn.widths", laid_burnish_intn_widths)], narrowed := true }
def IntnRingUptoSaid : Prop := intnRingUptoRow.holds Tryd.pinned (OpenSpec.upto intnRingSpec)

/-- 'burnishlaw01.IntnDivides', WHERE WHAT IT READS IS OF BULK AT MOST 1048576: true; the input reads as it did. -/
def intnDividesUptoRow : OpenClaim := { program := "ythdkgphnleibmaadoor", sum := "3a8bf9503c01bb17baaec6addfb93a3282e60ec9bb2ae3366f81e90ecbad45fa", func := "burnish/burnishlaw01.IntnDivides", spec := "intnDivides", unfollowed := true, recurses := true, named := ["burnish/intn.widths"], apart := false, laid := [("burnish/intn.widths", laid_burnish_intn_widths)], narrowed := true }
def IntnDividesUptoSaid : Prop := intnDividesUptoRow.holds Tryd.pinned (OpenSpec.upto intnDividesSpec)

end Rows
end Go.Proofs.YthdkgphnleibmaaDoor
