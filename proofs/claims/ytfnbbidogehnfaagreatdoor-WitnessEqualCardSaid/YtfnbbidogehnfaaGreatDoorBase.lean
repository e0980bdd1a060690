/- The package variables as the rows lay them. No conditions beyond those written. -/
import Derived.Test.YtfnbbidogehnfaaGreatDoorRowingA
import Derived.Test.YtfnbbidogehnfaaGreatDoorWalkB
import Derived.Test.YtfnbbidogehnfaaGreatDoorRows
namespace Go.Proofs.YtfnbbidogehnfaaGreatDoor
open Go Go.BE Go.ChangeShapes Go.WideShapes Go.ChangeAt Go.WideMaps Go.WideElems Go.RowKit Burn.M24
set_option maxRecDepth 100000
theorem own0 : ownKnob Tryz.prog.godebug = none := by kernel_rfl
theorem out0 : laidOutB Tryz.prog = true := by kernel_rfl
abbrev laidA : List (String × DataW Unit) := [("math/bits.deBruijn64tab", Rows.laid_math_bits_deBruijn64tab), ("burnish/intn.widths", Rows.laid_burnish_intn_widths)]
theorem door_met (os : Os) (args : Array Value) : laidMetH Tryz.prog laidA ((World.doorLaid Tryz.prog 400 os).forCall (fun _ _ => 0) ⟨#[], args, []⟩).memory :=
 laidMetH_of_parts3 (fuel := 8) (laidMet_of_run' 8 (by kernel_rfl) (by kernel_rfl)) (by kernel_rfl) (by kernel_rfl)
theorem of_laid {W : World} (h : laidMetH Tryz.prog laidA W) : GlR E_Q8 W (fun b => b < W.heap.size) := by
 rw [MakeChecks.laidMetH_plain _ _ _ (by kernel_rfl)] at h
 obtain ⟨ps, hl, _⟩ := h
 intro g a hg
 have hg : gl g = some a := hg
 unfold gl at hg
 split at hg
 ·injection hg with hg
  subst hg
  exact gl_of_laid (fun _ h => h) hl (v := ⟨"math/bits.deBruijn64tab", 0, 304, (.arr 64 (.int .u8)), deBr, Rows.laid_math_bits_deBruijn64tab⟩) ⟨by kernel_rfl, by kernel_rfl, by kernel_rfl, by kernel_rfl, by kernel_rfl, by decide⟩ (.head _)
 ·injection hg with hg
  subst hg
  exact gl_of_laid (fun _ h => h) hl (v := ⟨"burnish/intn.widths", 1, 310, (.arr 5 I), ((0 : Int), (1 : Int), (8 : Int), (32 : Int), (64 : Int), ()), Rows.laid_burnish_intn_widths⟩) ⟨by kernel_rfl, by kernel_rfl, by kernel_rfl, by kernel_rfl, by kernel_rfl, by decide⟩ (.tail _ (.head _))
 ·cases hg
end Go.Proofs.YtfnbbidogehnfaaGreatDoor
