/- The given statement about this law holds. No conditions beyond the given ones. -/
import Derived.Test.YtdbjmhlgbdeihaaDoorBase
import Derived.Test.YtdbjmhlgbdeihaaDoorTie
import Derived.Test.YtdbjmhlgbdeihaaDoorCards
import Derived.SevenTiedAt
namespace Go.Proofs.YtdbjmhlgbdeihaaDoor
open Go Go.BE Go.ChangeShapes Go.WideShapes Go.ChangeAt Go.WideMaps Go.WideElems Go.RowKit Burn.M27
set_option maxRecDepth 100000
theorem aliasSpans_lifted (os : Os) (started : os.Started) (H : Type) (enc : TypeId × Value → H) :
    ReturnsInHanded {} Tryd.checked os 5 .any (fun w args => (Rows.aliasSpansSpec.pre enc Tryd.prog Tryd.f5 [] false w args ∧ laidMetH Tryd.prog laidA w) ∧ sizedMet enc Tryd.prog Tryd.f5 (OpenSpec.ofChange Rows.aliasSpansSpec) false w args)
      (Rows.aliasSpansSpec.post enc Tryd.prog Tryd.f5 false true false false) := by
  refine returnsInHanded_of_change_and (C := Tryd.checked) (X := fun w _ => laidMetH Tryd.prog laidA w) (fun _ _ _ hh h => h.of_heap hh) own0 started (by kernel_rfl) Tryd.func5
    (ChangeSpec.witness_shaped (enc := enc) (C := Tryd.checked) (os := os) (X := fun w _ => laidMetH Tryd.prog laidA w) false (World.doorLaid Tryd.prog 400 os) #[.int .i64 0, .int .i8 0, .int .u8 0, .int .u8 0] 8 rfl (World.shaped_of_RefB (by kernel_rfl) (by kernel_rfl)) (by kernel_rfl) (by kernel_rfl) (by kernel_rfl) (door_met os _)) ?_
  intro W base args ds gs before hval hW _ hsz hL _
  exact law_contract [I, (.int .i8), (.int .u8), (.int .u8)] c_law27_AliasSpans (fun _ => rfl) out0 (by kernel_rfl) (by kernel_rfl) (by kernel_rfl) (show Tryd.prog.underlying 4 = some .bool by kernel_rfl) rfl (by kernel_rfl) (fun ds h => by
    have h : ds.length = 4 := h.trans (by kernel_rfl)
    match ds, h with
    | [d1, d2, d3, d4], _ => rfl) hval hW hsz (of_laid hL)
theorem aliasSpans_holds : Rows.AliasSpansSaid :=
  OpenClaim.holds_of_wide 5 Tryd.f5 rfl rfl rfl rfl rfl rfl rfl ⟨rfl, rfl, rfl, rfl, rfl⟩ rfl rfl rfl rfl rfl (by kernel_rfl) Tryd.func5 (by kernel_rfl)
    (of_decide_eq_true (by kernel_rfl)) (by unfold Func.isWrapper; first | (rw [if_pos (by decide +kernel)]; kernel_rfl) | (rw [if_neg (by decide +kernel)]; exact ⟨rfl, rfl⟩))
    (fun os started H enc _ => aliasSpans_lifted os started H enc)
theorem aliasSpans_card : Rows.AliasSpansCardSaid :=
  Claim7.holds_tied_plain_at .later [] [.data, .data] true (true, "399d68749980be8c7f0a92343530123e55a0396777b7e78e96bef7835782fce5") false
    aliasSpans_holds (fun _ h => by cases h) (by kernel_rfl) (fun _ h => by cases h) aliasSpans_row_tie rfl ⟨rfl, rfl⟩ (by kernel_rfl) rfl
    (fun f fn hf hfn => by
      obtain rfl : f = 5 := Option.some.inj ((show Tryd.prog.funcNamed "burnish/burnishlaw27.AliasSpans" = some 5 by kernel_rfl).symm.trans hf) |>.symm
      obtain rfl : fn = Tryd.f5 := (Option.some.inj (Tryd.func5.symm.trans hfn)).symm
      exact ⟨by kernel_rfl, fun j t ht => by
        rw [Tryd.params5] at ht
        have hm : t ∈ [2, 41, 5, 5] := by simpa using Array.mem_of_getElem? ht
        have hall : ([2, 41, 5, 5].all fun u => !Tryd.prog.wantsStandIn u) = true := by kernel_rfl
        exact (show Tryd.prog.wantsStandIn t = false by simpa using List.all_eq_true.1 hall t hm)⟩)
    (by kernel_rfl)
#print axioms aliasSpans_card
end Go.Proofs.YtdbjmhlgbdeihaaDoor
