/- The given statement about this law holds. No conditions beyond the given ones. -/
import Derived.Test.YtoajppfhcnocmaaBase
import Derived.SizedLaws
namespace Go.Proofs.Ytoajppfhcnocmaa
open Go Go.BE Go.ChangeShapes Go.WideShapes Go.ChangeAt Go.WideMaps Go.WideElems Go.RowKit Burn.M20
set_option maxRecDepth 100000
theorem cfgNewReg_lifted (os : Os) (started : os.Started) (H : Type) (enc : TypeId × Value → H) :
    ReturnsInHanded {} Try.checked os 7 .any (Rows.cfgNewRegSpec.pre6 enc Try.prog Try.f7 [] false) (Rows.cfgNewRegSpec.post enc Try.prog Try.f7 false true false false) := by
  refine returnsInHanded_of_change_sized (C := Try.checked) own0 started (by kernel_rfl) Try.func7
    (ChangeSpec.witness6 (enc := enc) (C := Try.checked) false ⟨#[], #[.agg #[.string ByteArray.empty, .slice none 0 0, .int .i64 0, .slice none 0 0, .slice none 0 0], .int .i64 0], []⟩ 8 (by kernel_rfl) (by kernel_rfl) (by kernel_rfl) (by kernel_rfl)) ?_
  intro W base args ds gs before hval hW _ hsz _
  exact law_contract [s_api_Func, I] c_law20_CfgNewReg (fun _ => rfl) out0 (by kernel_rfl) (by kernel_rfl) (by kernel_rfl) (show Try.prog.underlying 4 = some .bool by kernel_rfl) rfl (by kernel_rfl) (fun ds h => by
    have h : ds.length = 2 := h.trans (by kernel_rfl)
    match ds, h with
    | [d1, d2], _ => rfl) hval hW hsz of_none
theorem cfgNewReg_holds : Rows.CfgNewRegSaid :=
  OpenClaim.holds_of_wide 7 Try.f7 rfl rfl rfl rfl rfl rfl rfl ⟨rfl, rfl, rfl, rfl, rfl⟩ rfl rfl rfl rfl rfl (by kernel_rfl) Try.func7 (by kernel_rfl)
    (of_decide_eq_true (by kernel_rfl)) (by unfold Func.isWrapper; first | (rw [if_pos (by decide +kernel)]; kernel_rfl) | (rw [if_neg (by decide +kernel)]; exact ⟨rfl, rfl⟩))
    (fun os started H enc _ => cfgNewReg_lifted os started H enc)
#print axioms cfgNewReg_holds
end Go.Proofs.Ytoajppfhcnocmaa
