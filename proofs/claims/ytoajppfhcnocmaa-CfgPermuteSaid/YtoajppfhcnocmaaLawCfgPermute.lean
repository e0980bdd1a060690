/- The given statement about this law holds. No conditions beyond the given ones. -/
import Derived.Test.YtoajppfhcnocmaaBase
import Derived.SizedLaws
namespace Go.Proofs.Ytoajppfhcnocmaa
open Go Go.BE Go.ChangeShapes Go.WideShapes Go.ChangeAt Go.WideMaps Go.WideElems Go.RowKit Burn.M20
set_option maxRecDepth 100000
theorem cfgPermute_lifted (os : Os) (started : os.Started) (H : Type) (enc : TypeId × Value → H) :
    ReturnsInHanded {} Try.checked os 8 .any (Rows.cfgPermuteSpec.pre6 enc Try.prog Try.f8 [] false) (Rows.cfgPermuteSpec.post enc Try.prog Try.f8 false true false false) := by
  refine returnsInHanded_of_change_sized (C := Try.checked) own0 started (by kernel_rfl) Try.func8
    (ChangeSpec.witness6 (enc := enc) (C := Try.checked) false ⟨#[], #[.agg #[.string ByteArray.empty, .slice none 0 0, .int .i64 0, .slice none 0 0, .slice none 0 0], .slice none 0 0], []⟩ 8 (by kernel_rfl) (by kernel_rfl) (by kernel_rfl) (by kernel_rfl)) ?_
  intro W base args ds gs before hval hW _ hsz _
  exact law_contract [s_api_Func, (.sl 8 I)] c_law20_CfgPermute (fun _ => rfl) out0 (by kernel_rfl) (by kernel_rfl) (by kernel_rfl) (show Try.prog.underlying 4 = some .bool by kernel_rfl) rfl (by kernel_rfl) (fun ds h => by
    have h : ds.length = 2 := h.trans (by kernel_rfl)
    match ds, h with
    | [d1, d2], _ => rfl) hval hW hsz of_none
theorem cfgPermute_holds : Rows.CfgPermuteSaid :=
  OpenClaim.holds_of_wide 8 Try.f8 rfl rfl rfl rfl rfl rfl rfl ⟨rfl, rfl, rfl, rfl, rfl⟩ rfl rfl rfl rfl rfl (by kernel_rfl) Try.func8 (by kernel_rfl)
    (of_decide_eq_true (by kernel_rfl)) (by unfold Func.isWrapper; first | (rw [if_pos (by decide +kernel)]; kernel_rfl) | (rw [if_neg (by decide +kernel)]; exact ⟨rfl, rfl⟩))
    (fun os started H enc _ => cfgPermute_lifted os started H enc)
#print axioms cfgPermute_holds
end Go.Proofs.Ytoajppfhcnocmaa
