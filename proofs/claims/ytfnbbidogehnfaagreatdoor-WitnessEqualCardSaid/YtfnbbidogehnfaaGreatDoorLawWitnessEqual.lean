/- The given statement about this law holds. No conditions beyond the given ones. -/
import Derived.Test.YtfnbbidogehnfaaGreatDoorBase
import Derived.Test.YtfnbbidogehnfaaGreatDoorTie
import Derived.Test.YtfnbbidogehnfaaGreatDoorCards
import Derived.SevenTiedAt
namespace Go.Proofs.YtfnbbidogehnfaaGreatDoor
open Go Go.BE Go.ChangeShapes Go.WideShapes Go.ChangeAt Go.WideMaps Go.WideElems Go.RowKit Burn.M24
set_option maxRecDepth 100000
set_option maxHeartbeats 4000000
theorem witnessEqual_lifted (os : Os) (started : os.Started) (H : Type) (enc : TypeId × Value → H) :
  ReturnsInHanded {} Tryz.checked os 8 .any (fun w args => (Rows.witnessEqualSpec.pre enc Tryz.prog Tryz.f8 [] false w args ∧ laidMetH Tryz.prog laidA w) ∧ sizedMet enc Tryz.prog Tryz.f8 (OpenSpec.ofChange Rows.witnessEqualSpec) false w args)
   (Rows.witnessEqualSpec.post enc Tryz.prog Tryz.f8 false true false false) := by
 refine returnsInHanded_of_change_and (C := Tryz.checked) (X := fun w _ => laidMetH Tryz.prog laidA w) (fun _ _ _ hh h => h.of_heap hh) own0 started (by kernel_rfl) Tryz.func8
  (ChangeSpec.witness_shaped (enc := enc) (C := Tryz.checked) (os := os) (X := fun w _ => laidMetH Tryz.prog laidA w) false (World.doorLaid Tryz.prog 400 os) #[.agg #[.slice none 0 0, .slice none 0 0, .slice none 0 0], .agg #[.slice none 0 0, .slice none 0 0, .slice none 0 0]] 8 rfl (World.shaped_of_RefB (by kernel_rfl) (by kernel_rfl)) (by kernel_rfl) (by kernel_rfl) (by kernel_rfl) (door_met os _)) ?_
 intro W base args ds gs before hval hW _ hsz hL _
 exact law_contract [qae, qae] c_law24_WitnessEqual (fun _ => rfl) out0 (by kernel_rfl) (by kernel_rfl) (by kernel_rfl) (show Tryz.prog.underlying 4 = some .bool by kernel_rfl) rfl (by kernel_rfl) (fun ds h => by
  have h : ds.length = 2 := h.trans (by kernel_rfl)
  match ds, h with
  | [d1, d2], _ => rfl) hval hW hsz (of_laid hL)
theorem andT_ {a b : Bool} (ha : a = true) (hb : b = true) : (a && b) = true := by rw [ha, hb]; rfl
theorem witnessEqual_closed : joinedFacts Tryz.prog 8 Tryz.f8 Rows.witnessEqualSpec Rows.witnessEqualRow = true := by
 unfold joinedFacts
 repeat' with_reducible apply andT_
 all_goals (as_aux_lemma => kernel_rfl)
theorem witnessEqual_holds : Rows.WitnessEqualSaid :=
 OpenClaim.holds_of_wide 8 Tryz.f8 rfl rfl rfl rfl rfl rfl rfl ⟨rfl, rfl, rfl, rfl, rfl⟩ rfl rfl rfl rfl rfl (by as_aux_lemma => kernel_rfl) Tryz.func8 witnessEqual_closed
  (of_decide_eq_true (by as_aux_lemma => kernel_rfl)) (by unfold Func.isWrapper; first | (rw [if_pos (by decide +kernel)]; kernel_rfl) | (rw [if_neg (by decide +kernel)]; exact ⟨rfl, rfl⟩))
  (fun os started H enc _ => witnessEqual_lifted os started H enc)
theorem witnessEqual_card : Rows.WitnessEqualCardSaid :=
 Claim7.holds_tied_plain_at .later [] [.data, .data] true (true, "248906e1bdde65452da4edfd072d2738b906b210090a92aad9e89ded06935def") true
  witnessEqual_holds (fun _ h => by cases h) (by as_aux_lemma => kernel_rfl) (fun _ h => by cases h) witnessEqual_row_tie rfl ⟨rfl, rfl⟩ (by as_aux_lemma => kernel_rfl) rfl
  (fun f fn hf hfn => by
   obtain rfl : f = 8 := Option.some.inj ((show Tryz.prog.funcNamed "burnish/burnishlaw24.WitnessEqual" = some 8 by as_aux_lemma => kernel_rfl).symm.trans hf) |>.symm
   obtain rfl : fn = Tryz.f8 := (Option.some.inj (Tryz.func8.symm.trans hfn)).symm
   exact ⟨by as_aux_lemma => kernel_rfl, fun j t ht => by
    rw [Tryz.params8] at ht
    have hm : t ∈ [30, 30] := by simpa using Array.mem_of_getElem? ht
    have hall : ([30, 30].all fun u => !Tryz.prog.wantsStandIn u) = true := by as_aux_lemma => kernel_rfl
    exact (show Tryz.prog.wantsStandIn t = false by simpa using List.all_eq_true.1 hall t hm)⟩)
  (by as_aux_lemma => kernel_rfl)
#print axioms witnessEqual_card
end Go.Proofs.YtfnbbidogehnfaaGreatDoor
