/-
  NARROWER THAN 'FOR EVERY INPUT', by the rows' own cells (each row's printed sentence says how): AliasRelate: laid · AliasQuery: laid · AliasSpans: laid · AliasRename: laid.
  DERIVED. THE GIVEN ROWS OF THIS SEAT. 4 by the template 'for every input the law returns true; each argument reads behind the call as it read before'; 0 by the template 'total and deterministic' (their statements: YtdbjmhlgbdeihaaDoorTotals.lean).
  GIVEN WITH THE SEED: the statements are not yours to turn. If you find one false, say at which input.
  Laid BY PROGRAM, IN A SANDBOX (cutbox-rows.mjs): the forced cells as the released guide's own fill.sh prints them over the translation 4853f7df35a2de8f… (all of the seat's roots in one cut). By AI agents, Wed Nov 11 2026. No macro, syntax, notation, axiom, sorry.
-/
import Derived.Test.YtdbjmhlgbdeihaaDoorChecked
import GoSem.Claim
import GoSem.ClaimJoined
import GoSem.ClaimMapViews
import Derived.JoinedTies
import Derived.KernelRfl
namespace Go.Proofs.YtdbjmhlgbdeihaaDoor
/- THE CELL 'sum', in the pinned program and in every row, IS THE sha256 OF THE DUMP (.gsa) THAT YtdbjmhlgbdeihaaDoorProg.lean LOADS. Nothing in Lean hashes anything: it is a label: what it is worth is what the hold of that sum in a sandbox is worth. -/
noncomputable def Tryd.pinned : Pinned := { name := "ytdbjmhlgbdeihaadoor", sum := "4853f7df35a2de8f36c71b251b5cc86eb4684dab0027cafb2b84f1d96fce5e59", checked := Tryd.checked }
namespace Rows
def none {H : Type} : Left H := { results := [], args := [] }

/- WHAT THE LISTED PACKAGE-LEVEL VARIABLES READ AS WHEN THE CALL BEGINS. Each datum BY PROGRAM (the guide's laid-datum.mjs) off the statement by which the dump's own 'gosem.cut.vars' lays the variable. In a bare row this is a premise. The card (YtdbjmhlgbdeihaaDoorCards.lean) ties it to the program's text. -/
def laid_burnish_intn_widths {H : Type} : DataW H := .agg [.lit (.int .i64 0), .lit (.int .i64 1), .lit (.int .i64 8), .lit (.int .i64 32), .lit (.int .i64 64)]
def laid_burnish_alias_unset {H : Type} : DataW H := .agg [.lit (.int .i64 0), .lit (.int .i64 0), .lit (.int .i64 0), .lit (.bool false)]

/-- 'burnishlaw27.AliasRelate': WHATEVER THE INPUT: true; the input reads as it did. -/
def aliasRelateSpec : ChangeSpec := { name := "aliasRelate", fn := fun _ => fun
  | [d1, d2, d3, d4, d5] => { results := [.lit (.bool true)], args := [d1, d2, d3, d4, d5] }
  | _ => none }
def aliasRelateRow : OpenClaim := { program := "ytdbjmhlgbdeihaadoor", sum := "4853f7df35a2de8f36c71b251b5cc86eb4684dab0027cafb2b84f1d96fce5e59", func := "burnish/burnishlaw27.AliasRelate", spec := "aliasRelate", unfollowed := true, recurses := true, named := ["burnish/alias.unset", "burnish/intn.widths"], apart := false, laid := [("burnish/intn.widths", laid_burnish_intn_widths), ("burnish/alias.unset", laid_burnish_alias_unset)] }
def AliasRelateSaid : Prop := aliasRelateRow.holds Tryd.pinned (OpenSpec.ofChange aliasRelateSpec)

/-- ITS FALSE NEIGHBOUR: 'it returns false'. Refute it at one input. -/
def aliasRelateWrong : ChangeSpec := { name := "aliasRelate", fn := fun _ => fun
  | [d1, d2, d3, d4, d5] => { results := [.lit (.bool false)], args := [d1, d2, d3, d4, d5] }
  | _ => none }
def AliasRelateWrongFalsely : Prop := aliasRelateRow.holds Tryd.pinned (OpenSpec.ofChange aliasRelateWrong)

/-- 'burnishlaw27.AliasQuery': WHATEVER THE INPUT: true; the input reads as it did. -/
def aliasQuerySpec : ChangeSpec := { name := "aliasQuery", fn := fun _ => fun
  | [d1, d2, d3] => { results := [.lit (.bool true)], args := [d1, d2, d3] }
  | _ => none }
def aliasQueryRow : OpenClaim := { program := "ytdbjmhlgbdeihaadoor", sum := "4853f7df35a2de8f36c71b251b5cc86eb4684dab0027cafb2b84f1d96fce5e59", func := "burnish/burnishlaw27.AliasQuery", spec := "aliasQuery", unfollowed := true, recurses := true, named := ["burnish/alias.unset", "burnish/intn.widths"], apart := false, laid := [("burnish/intn.widths", laid_burnish_intn_widths), ("burnish/alias.unset", laid_burnish_alias_unset)] }
def AliasQuerySaid : Prop := aliasQueryRow.holds Tryd.pinned (OpenSpec.ofChange aliasQuerySpec)

/-- ITS FALSE NEIGHBOUR: 'it returns false'. Refute it at one input. -/
def aliasQueryWrong : ChangeSpec := { name := "aliasQuery", fn := fun _ => fun
  | [d1, d2, d3] => { results := [.lit (.bool false)], args := [d1, d2, d3] }
  | _ => none }
def AliasQueryWrongFalsely : Prop := aliasQueryRow.holds Tryd.pinned (OpenSpec.ofChange aliasQueryWrong)

/-- 'burnishlaw27.AliasSpans': WHATEVER THE INPUT: true; the input reads as it did. -/
def aliasSpansSpec : ChangeSpec := { name := "aliasSpans", fn := fun _ => fun
  | [d1, d2, d3, d4] => { results := [.lit (.bool true)], args := [d1, d2, d3, d4] }
  | _ => none }
def aliasSpansRow : OpenClaim := { program := "ytdbjmhlgbdeihaadoor", sum := "4853f7df35a2de8f36c71b251b5cc86eb4684dab0027cafb2b84f1d96fce5e59", func := "burnish/burnishlaw27.AliasSpans", spec := "aliasSpans", unfollowed := true, recurses := true, named := ["burnish/alias.unset", "burnish/intn.widths"], apart := false, laid := [("burnish/intn.widths", laid_burnish_intn_widths), ("burnish/alias.unset", laid_burnish_alias_unset)] }
def AliasSpansSaid : Prop := aliasSpansRow.holds Tryd.pinned (OpenSpec.ofChange aliasSpansSpec)

/-- ITS FALSE NEIGHBOUR: 'it returns false'. Refute it at one input. -/
def aliasSpansWrong : ChangeSpec := { name := "aliasSpans", fn := fun _ => fun
  | [d1, d2, d3, d4] => { results := [.lit (.bool false)], args := [d1, d2, d3, d4] }
  | _ => none }
def AliasSpansWrongFalsely : Prop := aliasSpansRow.holds Tryd.pinned (OpenSpec.ofChange aliasSpansWrong)

/-- 'burnishlaw27.AliasRename': WHATEVER THE INPUT: true; the input reads as it did. -/
def aliasRenameSpec : ChangeSpec := { name := "aliasRename", fn := fun _ => fun
  | [d1, d2] => { results := [.lit (.bool true)], args := [d1, d2] }
  | _ => none }
def aliasRenameRow : OpenClaim := { program := "ytdbjmhlgbdeihaadoor", sum := "4853f7df35a2de8f36c71b251b5cc86eb4684dab0027cafb2b84f1d96fce5e59", func := "burnish/burnishlaw27.AliasRename", spec := "aliasRename", unfollowed := true, recurses := true, named := ["burnish/alias.unset", "burnish/intn.widths"], apart := false, laid := [("burnish/intn.widths", laid_burnish_intn_widths), ("burnish/alias.unset", laid_burnish_alias_unset)] }
def AliasRenameSaid : Prop := aliasRenameRow.holds Tryd.pinned (OpenSpec.ofChange aliasRenameSpec)

/-- ITS FALSE NEIGHBOUR: 'it returns false'. Refute it at one input. -/
def aliasRenameWrong : ChangeSpec := { name := "aliasRename", fn := fun _ => fun
  | [d1, d2] => { results := [.lit (.bool false)], args := [d1, d2] }
  | _ => none }
def AliasRenameWrongFalsely : Prop := aliasRenameRow.holds Tryd.pinned (OpenSpec.ofChange aliasRenameWrong)

/- THE SECOND FORM. 'bulk': how many values and letters a reading holds, each counted each time it is reached (what is shared counts as often as it is met; a slice's spare places count too). A statement '..UptoSaid' is the law's where the arguments, and the package variables that the reading takes, are together of bulk at most 1048576: NARROWER than '..Said'. Prove '..Said' where nothing that the law and all that it calls make is longer than what came in: it says more and counts as full. Else prove '..UptoSaid'. A law counts once. -/
mutual
def uptoBulk {H : Type} : DataW H → Nat
  | .lit (.string bytes) => bytes.length + 1
  | .lit _ => 1
  | .nil => 1
  | .ptr d => uptoBulk d + 1
  | .slice elems spare => uptoBulkAll elems + uptoBulkAll spare + 1
  | .agg parts => uptoBulkAll parts + 1
  | .iface _ d => uptoBulk d + 1
  | .map entries => uptoBulkEntries entries + 1
  | .held _ => 1
def uptoBulkAll {H : Type} : List (DataW H) → Nat
  | [] => 0
  | d :: r => uptoBulk d + uptoBulkAll r
def uptoBulkEntries {H : Type} : List (Lit × DataW H) → Nat
  | [] => 0
  | x :: r => uptoBulkEntry x + uptoBulkEntries r
def uptoBulkEntry {H : Type} : Lit × DataW H → Nat
  | (.string bytes, d) => bytes.length + uptoBulk d + 1
  | (_, d) => uptoBulk d + 1
 end
def uptoSmall : (H : Type) → List (DataW H) → Bool := fun _ ds => decide (uptoBulkAll ds ≤ 1048576)
def OpenSpec.upto (s : _root_.Go.ChangeSpec) : _root_.Go.OpenSpec := { _root_.Go.OpenSpec.ofChange s with cond := some uptoSmall }

/-- 'burnishlaw27.AliasRelate', WHERE WHAT IT READS IS OF BULK AT MOST 1048576: true; the input reads as it did. -/
def aliasRelateUptoRow : OpenClaim := { program := "ytdbjmhlgbdeihaadoor", sum := "4853f7df35a2de8f36c71b251b5cc86eb4684dab0027cafb2b84f1d96fce5e59", func := "burnish/burnishlaw27.AliasRelate", spec := "aliasRelate", unfollowed := true, recurses := true, named := ["burnish/alias.unset", "burnish/intn.widths"], apart := false, laid := [("burnish/intn.widths", laid_burnish_intn_widths), ("burnish/alias.unset", laid_burnish_alias_unset)], narrowed := true }
def AliasRelateUptoSaid : Prop := aliasRelateUptoRow.holds Tryd.pinned (OpenSpec.upto aliasRelateSpec)

/-- 'burnishlaw27.AliasQuery', WHERE WHAT IT READS IS OF BULK AT MOST 1048576: true; the input reads as it did. -/
def aliasQueryUptoRow : OpenClaim := { program := "ytdbjmhlgbdeihaadoor", sum := "4853f7df35a2de8f36c71b251b5cc86eb4684dab0027cafb2b84f1d96fce5e59", func := "burnish/burnishlaw27.AliasQuery", spec := "aliasQuery", unfollowed := true, recurses := true, named := ["burnish/alias.unset", "burnish/intn.widths"], apart := false, laid := [("burnish/intn.widths", laid_burnish_intn_widths), ("burnish/alias.unset", laid_burnish_alias_unset)], narrowed := true }
def AliasQueryUptoSaid : Prop := aliasQueryUptoRow.holds Tryd.pinned (OpenSpec.upto aliasQuerySpec)

/-- 'burnishlaw27.AliasSpans', WHERE WHAT IT READS IS OF BULK AT MOST 1048576: true; the input reads as it did. -/
def aliasSpansUptoRow : OpenClaim := { program := "ytdbjmhlgbdeihaadoor", sum := "4853f7df35a2de8f36c71b251b5cc86eb4684dab0027cafb2b84f1d96fce5e59", func := "burnish/burnishlaw27.AliasSpans", spec := "aliasSpans", unfollowed := true, recurses := true, named := ["burnish/alias.unset", "burnish/intn.widths"], apart := false, laid := [("burnish/intn.widths", laid_burnish_intn_widths), ("burnish/alias.unset", laid_burnish_alias_unset)], narrowed := true }
def AliasSpansUptoSaid : Prop := aliasSpansUptoRow.holds Tryd.pinned (OpenSpec.upto aliasSpansSpec)

/-- 'burnishlaw27.AliasRename', WHERE WHAT IT READS IS OF BULK AT MOST 1048576: true; the input reads as it did. -/
def aliasRenameUptoRow : OpenClaim := { program := "ytdbjmhlgbdeihaadoor", sum := "4853f7df35a2de8f36c71b251b5cc86eb4684dab0027cafb2b84f1d96fce5e59", func := "burnish/burnishlaw27.AliasRename", spec := "aliasRename", unfollowed := true, recurses := true, named := ["burnish/alias.unset", "burnish/intn.widths"], apart := false, laid := [("burnish/intn.widths", laid_burnish_intn_widths), ("burnish/alias.unset", laid_burnish_alias_unset)], narrowed := true }
def AliasRenameUptoSaid : Prop := aliasRenameUptoRow.holds Tryd.pinned (OpenSpec.upto aliasRenameSpec)

end Rows
end Go.Proofs.YtdbjmhlgbdeihaaDoor
