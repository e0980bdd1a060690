/- The given statement about this law holds. No conditions beyond the given ones. -/
import Derived.Test.YtffikjglpgbnbaaDoorBaseUp
import Derived.Test.YtffikjglpgbnbaaDoorTie
import Derived.Test.YtffikjglpgbnbaaDoorCards
import Derived.SevenTiedAt
import Derived.Deep.DeepHandedRow
import Derived.Deep.DeepWitnessRowRef
namespace Go.Proofs.YtffikjglpgbnbaaDoor
open Go Go.BE Go.ChangeShapes Go.WideShapes Go.ChangeAt Go.WideMaps Go.WideElems Go.RowKit Burn.Cfg Burn.M21
set_option maxRecDepth 100000
theorem livenessSteps_reads (os : Os) {H : Type} (enc : TypeId × Value → H) : ∃ places, DataW.whole enc Tryd.prog ((World.doorLaid Tryd.prog 400 os).forCall (fun _ _ => 0) ⟨#[], #[.agg #[.string ByteArray.empty, .slice none 0 0, .int .i64 0, .slice none 0 0, .slice none 0 0]], []⟩).memory Tryd.f4.params.toList Rows.livenessStepsSpec.vars false (#[.agg #[.string ByteArray.empty, .slice none 0 0, .int .i64 0, .slice none 0 0, .slice none 0 0]] : Array Value).toList 8 = some ([.agg [.lit (.string []), .nil, .lit (.int .i64 0), .nil, .nil]], [], places) :=
 ⟨[], by kernel_rfl⟩
theorem livenessSteps_lifted (os : Os) (started : os.Started) (H : Type) (enc : TypeId × Value → H) (F : Stop.Interp) :
  ReturnsInHanded {} Tryd.checked os 4 .any ((Rows.OpenSpec.upto Rows.livenessStepsSpec).preRow enc Tryd.prog Tryd.f4 Rows.livenessStepsUptoRow.domain false Rows.livenessStepsUptoRow.laid) (((Rows.OpenSpec.upto Rows.livenessStepsSpec).at F).post enc Tryd.prog Tryd.f4 false true false false) := by
 obtain ⟨places, hx⟩ := livenessSteps_reads os enc
 refine returnsInHanded_of_row (C := Tryd.checked) (s := Rows.OpenSpec.upto Rows.livenessStepsSpec) own0 started (by kernel_rfl) Tryd.func4
  (witness_row_atRef (enc := enc) (C := Tryd.checked) false (World.doorLaid Tryd.prog 400 os) #[.agg #[.string ByteArray.empty, .slice none 0 0, .int .i64 0, .slice none 0 0, .slice none 0 0]] rfl (by kernel_rfl) (by kernel_rfl) (by kernel_rfl)
   (OpenSpec.preRow_of_cond 8 hx (by kernel_rfl) (fun k hk => by cases hk; kernel_rfl) (by kernel_rfl) (door_met os _))) ?_
 intro W base args ds gs before hval hW _ hcond hsz hL _ _
 have hb := bulk_of (hcond _ rfl)
 have hgs : gs = [] := by
  obtain ⟨p, q, _, hV, _⟩ := hW
  exact (trodVars_none (show DataW.TrodVars enc Tryd.prog W (fun _ => true) [] gs q from hV)).1
 subst hgs
 rw [List.append_nil] at hb
 exact law_contract_pre (s := (Rows.OpenSpec.upto Rows.livenessStepsSpec).at F) [qad] c_law21_LivenessSteps (fun _ => rfl) out0 (by kernel_rfl) (by kernel_rfl) (by kernel_rfl) (show Tryd.prog.underlying 4 = some .bool by kernel_rfl) rfl (by kernel_rfl) (fun ds h => by
  have h : ds.length = 1 := h.trans (by kernel_rfl)
  match ds, h with
  | [d], _ => rfl) hval hW hsz (of_laid hL) (fun x hx => by
  match ds, hx with
  | d :: ds, hx =>
   have h := bulk_sz _ d x.1 hx.1
   simp only [Rows.uptoBulkAll] at hb
   show szD _ x.1 ≤ _
   omega
 )
theorem livenessSteps_holds : Rows.LivenessStepsUptoSaid :=
 OpenClaim.holds_of_cond 4 Tryd.f4 rfl rfl rfl rfl rfl rfl rfl ⟨rfl, rfl, rfl, rfl, rfl⟩ rfl rfl rfl rfl rfl (by kernel_rfl) Tryd.func4 (by kernel_rfl)
  (of_decide_eq_true (by kernel_rfl)) (by unfold Func.isWrapper; first | (rw [if_pos (by decide +kernel)]; kernel_rfl) | (rw [if_neg (by decide +kernel)]; exact ⟨rfl, rfl⟩))
  (fun os started H enc _ F => by rw [OpenClaim.pre_eq_preRow]; exact livenessSteps_lifted os started H enc F)
theorem livenessSteps_card : Rows.LivenessStepsUptoCardSaid :=
 Claim7.holds_tied_plain_at .later [] [.data] true (true, "9a9133260edf124c5c251c6b23fc52a52d60b4c8925d3586e13f9eeffd3cb608") false
  livenessSteps_holds (fun _ h => by cases h) (by kernel_rfl) (fun _ h => by cases h) livenessStepsUpto_row_tie rfl ⟨rfl, rfl⟩ (by kernel_rfl) rfl
  (fun f fn hf hfn => by
   obtain rfl : f = 4 := Option.some.inj ((show Tryd.prog.funcNamed "burnish/burnishlaw21.LivenessSteps" = some 4 by kernel_rfl).symm.trans hf) |>.symm
   obtain rfl : fn = Tryd.f4 := (Option.some.inj (Tryd.func4.symm.trans hfn)).symm
   exact ⟨by kernel_rfl, fun j t ht => by
    rw [Tryd.params4] at ht
    have hm : t ∈ [27] := by simpa using Array.mem_of_getElem? ht
    have hall : ([27].all fun u => !Tryd.prog.wantsStandIn u) = true := by kernel_rfl
    exact (show Tryd.prog.wantsStandIn t = false by simpa using List.all_eq_true.1 hall t hm)⟩)
  (by kernel_rfl)
#print axioms livenessSteps_card
end Go.Proofs.YtffikjglpgbnbaaDoor
