/- The given statement about this law holds. No conditions beyond the given ones. -/
import Derived.Test.YtoajppfhcnocmaaBaseUp
namespace Go.Proofs.Ytoajppfhcnocmaa
open Go Go.BE Go.ChangeShapes Go.WideShapes Go.ChangeAt Go.WideMaps Go.WideElems Go.RowKit Burn.Cfg Burn.M20
set_option maxRecDepth 100000
theorem cfgGraph_lifted (os : Os) (started : os.Started) (H : Type) (enc : TypeId × Value → H) (F : Stop.Interp) :
    ReturnsInHanded {} Try.checked os 6 .any ((Rows.OpenSpec.upto Rows.cfgGraphSpec).pre6 enc Try.prog Try.f6 Rows.cfgGraphUptoRow.domain false) (((Rows.OpenSpec.upto Rows.cfgGraphSpec).at F).post enc Try.prog Try.f6 false true false false) := by
  refine returnsInHanded_of_cond_sized (C := Try.checked) (s := Rows.OpenSpec.upto Rows.cfgGraphSpec) (k := Rows.uptoSmall) rfl own0 started (by kernel_rfl) Try.func6
    (OpenSpec.witness (enc := enc) (C := Try.checked) (s := Rows.OpenSpec.upto Rows.cfgGraphSpec) (k := Rows.uptoSmall) rfl false ⟨#[], #[.agg #[.string ByteArray.empty, .slice none 0 0, .int .i64 0, .slice none 0 0, .slice none 0 0]], []⟩ 8 (by kernel_rfl) (by kernel_rfl) (by kernel_rfl)
      (x := ([.agg [.lit (.string []), .nil, .lit (.int .i64 0), .nil, .nil]], [], [])) (by kernel_rfl) rfl (by kernel_rfl)) ?_
  intro W base args ds gs before hval hW hk hsz
  have hb := bulk_of hk
  have hgs : gs = [] := by
    obtain ⟨p, q, _, hV, _⟩ := hW
    exact (trodVars_none (show DataW.TrodVars enc Try.prog W (fun _ => true) [] gs q from hV)).1
  subst hgs
  rw [List.append_nil] at hb
  exact law_contract_pre (s := (Rows.OpenSpec.upto Rows.cfgGraphSpec).at F) [s_api_Func] c_law20_CfgGraph (fun _ => rfl) out0 (by kernel_rfl) (by kernel_rfl) (by kernel_rfl) (show Try.prog.underlying 4 = some .bool by kernel_rfl) rfl (by kernel_rfl) (fun ds h => by
    have h : ds.length = 1 := h.trans (by kernel_rfl)
    match ds, h with
    | [d], _ => rfl) hval hW hsz of_none (fun x hx => by
    match ds, hx with
    | d :: ds, hx =>
      have h := bulk_sz _ d x.1 hx.1
      simp only [Rows.uptoBulkAll] at hb
      show szD _ x.1 ≤ _
      omega
  )
theorem cfgGraph_holds : Rows.CfgGraphUptoSaid :=
  OpenClaim.holds_of_cond 6 Try.f6 rfl rfl rfl rfl rfl rfl rfl ⟨rfl, rfl, rfl, rfl, rfl⟩ rfl rfl rfl rfl rfl (by kernel_rfl) Try.func6 (by kernel_rfl)
    (of_decide_eq_true (by kernel_rfl)) (by unfold Func.isWrapper; first | (rw [if_pos (by decide +kernel)]; kernel_rfl) | (rw [if_neg (by decide +kernel)]; exact ⟨rfl, rfl⟩))
    (fun os started H enc _ F => cfgGraph_lifted os started H enc F)
#print axioms cfgGraph_holds
end Go.Proofs.Ytoajppfhcnocmaa
