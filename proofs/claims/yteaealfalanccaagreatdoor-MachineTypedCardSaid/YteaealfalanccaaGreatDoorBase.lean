/- The package variables as the rows lay them. No conditions beyond those written. -/
import Derived.Test.YteaealfalanccaaGreatDoorRowingA
import Derived.Test.YteaealfalanccaaGreatDoorWalkD
import Derived.Test.YteaealfalanccaaGreatDoorRows
namespace Go.Proofs.YteaealfalanccaaGreatDoor
open Go Go.BE Go.ChangeShapes Go.WideShapes Go.ChangeAt Go.WideMaps Go.WideElems Go.RowKit Burn.MTT
set_option maxRecDepth 100000
theorem own0 : ownKnob Tryz.prog.godebug = none := by kernel_rfl
theorem out0 : laidOutB Tryz.prog = true := by kernel_rfl
abbrev laidA : List (String × DataW Unit) := [("math/bits.deBruijn32tab", Rows.laid_math_bits_deBruijn32tab), ("math/bits.deBruijn64tab", Rows.laid_math_bits_deBruijn64tab), ("burnish/intn.widths", Rows.laid_burnish_intn_widths), ("internal/strconv.uint64pow10", Rows.laid_internal_strconv_uint64pow10)]
theorem door_met (os : Os) (args : Array Value) : laidMetH Tryz.prog laidA ((World.doorLaid Tryz.prog 400 os).forCall (fun _ _ => 0) ⟨#[], args, []⟩).memory :=
 laidMetH_of_parts3 (fuel := 8) (laidMet_of_run' 8 (by kernel_rfl) (by kernel_rfl)) (by kernel_rfl) (by kernel_rfl)
theorem of_laid {W : World} (h : laidMetH Tryz.prog laidA W) : GlR E_V53 W (fun b => b < W.heap.size) := by
 rw [MakeChecks.laidMetH_plain _ _ _ (by kernel_rfl)] at h
 obtain ⟨ps, hl, _⟩ := h
 intro g a hg
 have hg : gl g = some a := hg
 unfold gl at hg
 split at hg
 ·injection hg with hg
  subst hg
  exact gl_of_laid (fun _ h => h) hl (v := ⟨"burnish/intn.widths", 1, 161, (.arr 5 I), ((0 : Int), (1 : Int), (8 : Int), (32 : Int), (64 : Int), ()), Rows.laid_burnish_intn_widths⟩) ⟨by kernel_rfl, by kernel_rfl, by kernel_rfl, by kernel_rfl, by kernel_rfl, by decide⟩ (.tail _ (.tail _ (.head _)))
 ·cases hg
end Go.Proofs.YteaealfalanccaaGreatDoor
