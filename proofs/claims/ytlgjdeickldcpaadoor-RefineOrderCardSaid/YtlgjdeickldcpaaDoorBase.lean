/- The package variables as the rows lay them. No conditions beyond those written. -/
import Derived.Test.YtlgjdeickldcpaaDoorRowingA
import Derived.Test.YtlgjdeickldcpaaDoorWalkA
import Derived.Test.YtlgjdeickldcpaaDoorRows
namespace Go.Proofs.YtlgjdeickldcpaaDoor
open Go Go.BE Go.ChangeShapes Go.WideShapes Go.ChangeAt Go.WideMaps Go.WideElems Go.RowKit Burn.M19
set_option maxRecDepth 100000
theorem own0 : ownKnob Tryd.prog.godebug = none := by kernel_rfl
theorem out0 : laidOutB Tryd.prog = true := by kernel_rfl
abbrev laidA : List (String × DataW Unit) := [("burnish/intn.widths", Rows.laid_burnish_intn_widths), ("burnish/value.poison", Rows.laid_burnish_value_poison), ("burnish/value.unknown", Rows.laid_burnish_value_unknown)]
theorem door_met (os : Os) (args : Array Value) : laidMetH Tryd.prog laidA ((World.doorLaid Tryd.prog 400 os).forCall (fun _ _ => 0) ⟨#[], args, []⟩).memory :=
  laidMetH_of_parts3 (fuel := 8) (laidMet_of_run' 8 (by kernel_rfl) (by kernel_rfl)) (by kernel_rfl) (by kernel_rfl)
theorem of_laid {W : World} (h : laidMetH Tryd.prog laidA W) : GlR E_R9 W (fun b => b < W.heap.size) := by
  rw [MakeChecks.laidMetH_plain _ _ _ (by kernel_rfl)] at h
  obtain ⟨ps, hl, _⟩ := h
  intro g a hg
  have hg : gl g = some a := hg
  unfold gl at hg
  split at hg
  · injection hg with hg
    subst hg
    exact gl_of_laid (fun _ h => h) hl (v := ⟨"burnish/value.poison", 0, 24, s_api_Lane, ((0 : Int), true, false, ()), Rows.laid_burnish_value_poison⟩) ⟨by kernel_rfl, by kernel_rfl, by kernel_rfl, by kernel_rfl, by kernel_rfl, by decide⟩ (.tail _ (.head _))
  · injection hg with hg
    subst hg
    exact gl_of_laid (fun _ h => h) hl (v := ⟨"burnish/intn.widths", 1, 77, (.arr 5 I), ((0 : Int), (1 : Int), (8 : Int), (32 : Int), (64 : Int), ()), Rows.laid_burnish_intn_widths⟩) ⟨by kernel_rfl, by kernel_rfl, by kernel_rfl, by kernel_rfl, by kernel_rfl, by decide⟩ (.head _)
  · injection hg with hg
    subst hg
    exact gl_of_laid (fun _ h => h) hl (v := ⟨"burnish/value.unknown", 2, 24, s_api_Lane, ((0 : Int), false, true, ()), Rows.laid_burnish_value_unknown⟩) ⟨by kernel_rfl, by kernel_rfl, by kernel_rfl, by kernel_rfl, by kernel_rfl, by decide⟩ (.tail _ (.tail _ (.head _)))
  · cases hg
end Go.Proofs.YtlgjdeickldcpaaDoor
