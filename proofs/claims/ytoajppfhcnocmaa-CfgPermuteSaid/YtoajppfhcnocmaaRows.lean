/-
  No cell of these rows narrows 'for every input' (looked for: loops, veiled, ifaces, maps, wideKeys, modest, calm, conditions, laid).
  DERIVED. THE GIVEN ROWS OF THIS SEAT. 6 by the template 'for every input the law returns true; each argument reads behind the call as it read before'; 0 by the template 'total and deterministic' (their statements: YtoajppfhcnocmaaTotals.lean).
  GIVEN WITH THE SEED: the statements are not yours to turn. If you find one false, say at which input.
  Laid BY PROGRAM, IN A SANDBOX (cutbox-rows.mjs): the forced cells as the released guide's own fill.sh prints them over the translation bd2be34fa592508b… (all of the seat's roots in one cut). By AI agents, Wed Nov 11 2026. No macro, syntax, notation, axiom, sorry.
-/
import Derived.Test.YtoajppfhcnocmaaChecked
import GoSem.Claim
import GoSem.ClaimJoined
import GoSem.ClaimMapViews
import Derived.JoinedTies
import Derived.KernelRfl
namespace Go.Proofs.Ytoajppfhcnocmaa
/- THE CELL 'sum', in the pinned program and in every row, IS THE sha256 OF THE DUMP (.gsa) THAT YtoajppfhcnocmaaProg.lean LOADS. Nothing in Lean hashes anything: it is a label: what it is worth is what the hold of that sum in a sandbox is worth. -/
noncomputable def Try.pinned : Pinned := { name := "ytoajppfhcnocmaa", sum := "bd2be34fa592508b15951192245729e68e8eeba203bc635e01ab5121944860a5", checked := Try.checked }
namespace Rows
def none {H : Type} : Left H := { results := [], args := [] }

/-- 'burnishlaw20.CfgReads': WHATEVER THE INPUT: true; the input reads as it did. -/
def cfgReadsSpec : ChangeSpec := { name := "cfgReads", fn := fun _ => fun
  | [d1, d2] => { results := [.lit (.bool true)], args := [d1, d2] }
  | _ => none }
def cfgReadsRow : OpenClaim := { program := "ytoajppfhcnocmaa", sum := "bd2be34fa592508b15951192245729e68e8eeba203bc635e01ab5121944860a5", func := "burnish/burnishlaw20.CfgReads", spec := "cfgReads", unfollowed := true, recurses := true, apart := false }
def CfgReadsSaid : Prop := cfgReadsRow.holds Try.pinned (OpenSpec.ofChange cfgReadsSpec)

/-- ITS FALSE NEIGHBOUR: 'it returns false'. Refute it at one input. -/
def cfgReadsWrong : ChangeSpec := { name := "cfgReads", fn := fun _ => fun
  | [d1, d2] => { results := [.lit (.bool false)], args := [d1, d2] }
  | _ => none }
def CfgReadsWrongFalsely : Prop := cfgReadsRow.holds Try.pinned (OpenSpec.ofChange cfgReadsWrong)

/-- 'burnishlaw20.CfgSplit': WHATEVER THE INPUT: true; the input reads as it did. -/
def cfgSplitSpec : ChangeSpec := { name := "cfgSplit", fn := fun _ => fun
  | [d1, d2, d3] => { results := [.lit (.bool true)], args := [d1, d2, d3] }
  | _ => none }
def cfgSplitRow : OpenClaim := { program := "ytoajppfhcnocmaa", sum := "bd2be34fa592508b15951192245729e68e8eeba203bc635e01ab5121944860a5", func := "burnish/burnishlaw20.CfgSplit", spec := "cfgSplit", unfollowed := true, recurses := true, apart := false }
def CfgSplitSaid : Prop := cfgSplitRow.holds Try.pinned (OpenSpec.ofChange cfgSplitSpec)

/-- ITS FALSE NEIGHBOUR: 'it returns false'. Refute it at one input. -/
def cfgSplitWrong : ChangeSpec := { name := "cfgSplit", fn := fun _ => fun
  | [d1, d2, d3] => { results := [.lit (.bool false)], args := [d1, d2, d3] }
  | _ => none }
def CfgSplitWrongFalsely : Prop := cfgSplitRow.holds Try.pinned (OpenSpec.ofChange cfgSplitWrong)

/-- 'burnishlaw20.CfgContract': WHATEVER THE INPUT: true; the input reads as it did. -/
def cfgContractSpec : ChangeSpec := { name := "cfgContract", fn := fun _ => fun
  | [d1, d2, d3] => { results := [.lit (.bool true)], args := [d1, d2, d3] }
  | _ => none }
def cfgContractRow : OpenClaim := { program := "ytoajppfhcnocmaa", sum := "bd2be34fa592508b15951192245729e68e8eeba203bc635e01ab5121944860a5", func := "burnish/burnishlaw20.CfgContract", spec := "cfgContract", unfollowed := true, recurses := true, apart := false }
def CfgContractSaid : Prop := cfgContractRow.holds Try.pinned (OpenSpec.ofChange cfgContractSpec)

/-- ITS FALSE NEIGHBOUR: 'it returns false'. Refute it at one input. -/
def cfgContractWrong : ChangeSpec := { name := "cfgContract", fn := fun _ => fun
  | [d1, d2, d3] => { results := [.lit (.bool false)], args := [d1, d2, d3] }
  | _ => none }
def CfgContractWrongFalsely : Prop := cfgContractRow.holds Try.pinned (OpenSpec.ofChange cfgContractWrong)

/-- 'burnishlaw20.CfgGraph': WHATEVER THE INPUT: true; the input reads as it did. -/
def cfgGraphSpec : ChangeSpec := { name := "cfgGraph", fn := fun _ => fun
  | [d] => { results := [.lit (.bool true)], args := [d] }
  | _ => none }
def cfgGraphRow : OpenClaim := { program := "ytoajppfhcnocmaa", sum := "bd2be34fa592508b15951192245729e68e8eeba203bc635e01ab5121944860a5", func := "burnish/burnishlaw20.CfgGraph", spec := "cfgGraph", unfollowed := true, recurses := true, apart := false }
def CfgGraphSaid : Prop := cfgGraphRow.holds Try.pinned (OpenSpec.ofChange cfgGraphSpec)

/-- ITS FALSE NEIGHBOUR: 'it returns false'. Refute it at one input. -/
def cfgGraphWrong : ChangeSpec := { name := "cfgGraph", fn := fun _ => fun
  | [d] => { results := [.lit (.bool false)], args := [d] }
  | _ => none }
def CfgGraphWrongFalsely : Prop := cfgGraphRow.holds Try.pinned (OpenSpec.ofChange cfgGraphWrong)

/-- 'burnishlaw20.CfgNewReg': WHATEVER THE INPUT: true; the input reads as it did. -/
def cfgNewRegSpec : ChangeSpec := { name := "cfgNewReg", fn := fun _ => fun
  | [d1, d2] => { results := [.lit (.bool true)], args := [d1, d2] }
  | _ => none }
def cfgNewRegRow : OpenClaim := { program := "ytoajppfhcnocmaa", sum := "bd2be34fa592508b15951192245729e68e8eeba203bc635e01ab5121944860a5", func := "burnish/burnishlaw20.CfgNewReg", spec := "cfgNewReg", unfollowed := true, recurses := true, apart := false }
def CfgNewRegSaid : Prop := cfgNewRegRow.holds Try.pinned (OpenSpec.ofChange cfgNewRegSpec)

/-- ITS FALSE NEIGHBOUR: 'it returns false'. Refute it at one input. -/
def cfgNewRegWrong : ChangeSpec := { name := "cfgNewReg", fn := fun _ => fun
  | [d1, d2] => { results := [.lit (.bool false)], args := [d1, d2] }
  | _ => none }
def CfgNewRegWrongFalsely : Prop := cfgNewRegRow.holds Try.pinned (OpenSpec.ofChange cfgNewRegWrong)

/-- 'burnishlaw20.CfgPermute': WHATEVER THE INPUT: true; the input reads as it did. -/
def cfgPermuteSpec : ChangeSpec := { name := "cfgPermute", fn := fun _ => fun
  | [d1, d2] => { results := [.lit (.bool true)], args := [d1, d2] }
  | _ => none }
def cfgPermuteRow : OpenClaim := { program := "ytoajppfhcnocmaa", sum := "bd2be34fa592508b15951192245729e68e8eeba203bc635e01ab5121944860a5", func := "burnish/burnishlaw20.CfgPermute", spec := "cfgPermute", unfollowed := true, recurses := true, apart := false }
def CfgPermuteSaid : Prop := cfgPermuteRow.holds Try.pinned (OpenSpec.ofChange cfgPermuteSpec)

/-- ITS FALSE NEIGHBOUR: 'it returns false'. Refute it at one input. -/
def cfgPermuteWrong : ChangeSpec := { name := "cfgPermute", fn := fun _ => fun
  | [d1, d2] => { results := [.lit (.bool false)], args := [d1, d2] }
  | _ => none }
def CfgPermuteWrongFalsely : Prop := cfgPermuteRow.holds Try.pinned (OpenSpec.ofChange cfgPermuteWrong)

/- THE SECOND FORM. 'bulk': how many values and letters a reading holds, each counted each time it is reached (what is shared counts as often as it is met; a slice's spare places count too). A statement '..UptoSaid' is the law's where the arguments, and the package variables that the reading takes, are together of bulk at most 1048576: NARROWER than '..Said'. Prove '..Said' where nothing that the law and all that it calls make is longer than what came in: it says more and counts as full. Else prove '..UptoSaid'. A law counts once. -/
mutual
def uptoBulk {H : Type} : DataW H → Nat
  | .lit (.string bytes) => bytes.length + 1
  | .lit _ => 1
  | .nil => 1
  | .ptr d => uptoBulk d + 1
  | .slice elems spare => uptoBulkAll elems + uptoBulkAll spare + 1
  | .agg parts => uptoBulkAll parts + 1
  | .iface _ d => uptoBulk d + 1
  | .map entries => uptoBulkEntries entries + 1
  | .held _ => 1
def uptoBulkAll {H : Type} : List (DataW H) → Nat
  | [] => 0
  | d :: r => uptoBulk d + uptoBulkAll r
def uptoBulkEntries {H : Type} : List (Lit × DataW H) → Nat
  | [] => 0
  | x :: r => uptoBulkEntry x + uptoBulkEntries r
def uptoBulkEntry {H : Type} : Lit × DataW H → Nat
  | (.string bytes, d) => bytes.length + uptoBulk d + 1
  | (_, d) => uptoBulk d + 1
 end
def uptoSmall : (H : Type) → List (DataW H) → Bool := fun _ ds => decide (uptoBulkAll ds ≤ 1048576)
def OpenSpec.upto (s : _root_.Go.ChangeSpec) : _root_.Go.OpenSpec := { _root_.Go.OpenSpec.ofChange s with cond := some uptoSmall }

/-- 'burnishlaw20.CfgReads', WHERE WHAT IT READS IS OF BULK AT MOST 1048576: true; the input reads as it did. -/
def cfgReadsUptoRow : OpenClaim := { program := "ytoajppfhcnocmaa", sum := "bd2be34fa592508b15951192245729e68e8eeba203bc635e01ab5121944860a5", func := "burnish/burnishlaw20.CfgReads", spec := "cfgReads", unfollowed := true, recurses := true, apart := false, narrowed := true }
def CfgReadsUptoSaid : Prop := cfgReadsUptoRow.holds Try.pinned (OpenSpec.upto cfgReadsSpec)

/-- 'burnishlaw20.CfgSplit', WHERE WHAT IT READS IS OF BULK AT MOST 1048576: true; the input reads as it did. -/
def cfgSplitUptoRow : OpenClaim := { program := "ytoajppfhcnocmaa", sum := "bd2be34fa592508b15951192245729e68e8eeba203bc635e01ab5121944860a5", func := "burnish/burnishlaw20.CfgSplit", spec := "cfgSplit", unfollowed := true, recurses := true, apart := false, narrowed := true }
def CfgSplitUptoSaid : Prop := cfgSplitUptoRow.holds Try.pinned (OpenSpec.upto cfgSplitSpec)

/-- 'burnishlaw20.CfgContract', WHERE WHAT IT READS IS OF BULK AT MOST 1048576: true; the input reads as it did. -/
def cfgContractUptoRow : OpenClaim := { program := "ytoajppfhcnocmaa", sum := "bd2be34fa592508b15951192245729e68e8eeba203bc635e01ab5121944860a5", func := "burnish/burnishlaw20.CfgContract", spec := "cfgContract", unfollowed := true, recurses := true, apart := false, narrowed := true }
def CfgContractUptoSaid : Prop := cfgContractUptoRow.holds Try.pinned (OpenSpec.upto cfgContractSpec)

/-- 'burnishlaw20.CfgGraph', WHERE WHAT IT READS IS OF BULK AT MOST 1048576: true; the input reads as it did. -/
def cfgGraphUptoRow : OpenClaim := { program := "ytoajppfhcnocmaa", sum := "bd2be34fa592508b15951192245729e68e8eeba203bc635e01ab5121944860a5", func := "burnish/burnishlaw20.CfgGraph", spec := "cfgGraph", unfollowed := true, recurses := true, apart := false, narrowed := true }
def CfgGraphUptoSaid : Prop := cfgGraphUptoRow.holds Try.pinned (OpenSpec.upto cfgGraphSpec)

/-- 'burnishlaw20.CfgNewReg', WHERE WHAT IT READS IS OF BULK AT MOST 1048576: true; the input reads as it did. -/
def cfgNewRegUptoRow : OpenClaim := { program := "ytoajppfhcnocmaa", sum := "bd2be34fa592508b15951192245729e68e8eeba203bc635e01ab5121944860a5", func := "burnish/burnishlaw20.CfgNewReg", spec := "cfgNewReg", unfollowed := true, recurses := true, apart := false, narrowed := true }
def CfgNewRegUptoSaid : Prop := cfgNewRegUptoRow.holds Try.pinned (OpenSpec.upto cfgNewRegSpec)

/-- 'burnishlaw20.CfgPermute', WHERE WHAT IT READS IS OF BULK AT MOST 1048576: true; the input reads as it did. -/
def cfgPermuteUptoRow : OpenClaim := { program := "ytoajppfhcnocmaa", sum := "bd2be34fa592508b15951192245729e68e8eeba203bc635e01ab5121944860a5", func := "burnish/burnishlaw20.CfgPermute", spec := "cfgPermute", unfollowed := true, recurses := true, apart := false, narrowed := true }
def CfgPermuteUptoSaid : Prop := cfgPermuteUptoRow.holds Try.pinned (OpenSpec.upto cfgPermuteSpec)

end Rows
end Go.Proofs.Ytoajppfhcnocmaa
