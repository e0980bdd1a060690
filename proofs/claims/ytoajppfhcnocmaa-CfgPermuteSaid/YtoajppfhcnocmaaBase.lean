/- The package variables as the rows lay them. No conditions beyond those written. -/
import Derived.Test.YtoajppfhcnocmaaRowingA
import Derived.Test.YtoajppfhcnocmaaWalkB
import Derived.Test.YtoajppfhcnocmaaRows
namespace Go.Proofs.Ytoajppfhcnocmaa
open Go Go.BE Go.ChangeShapes Go.WideShapes Go.ChangeAt Go.WideMaps Go.WideElems Go.RowKit Burn.M20
set_option maxRecDepth 100000
theorem own0 : ownKnob Try.prog.godebug = none := by kernel_rfl
theorem out0 : laidOutB Try.prog = true := by kernel_rfl
theorem of_none {l : List (FuncId × FSpec)} {W : World} : GlR (ctx l) W (fun b => b < W.heap.size) := by
  intro g a hg
  have hg : gl g = some a := hg
  unfold gl at hg
  cases hg
end Go.Proofs.Ytoajppfhcnocmaa
