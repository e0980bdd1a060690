/- The given statement about this law holds. No conditions beyond the given ones. -/
import Derived.Test.YteaealfalanccaaGreatDoorBase
import Derived.Test.YteaealfalanccaaGreatDoorTie
import Derived.Test.YteaealfalanccaaGreatDoorCards
import Derived.SevenTiedAt
namespace Go.Proofs.YteaealfalanccaaGreatDoor
open Go Go.BE Go.ChangeShapes Go.WideShapes Go.ChangeAt Go.WideMaps Go.WideElems Go.RowKit Burn.MC
set_option maxRecDepth 100000
theorem machineCheck_lifted (os : Os) (started : os.Started) (H : Type) (enc : TypeId × Value → H) :
  ReturnsInHanded {} Tryz.checked os 3 .any (fun w args => (Rows.machineCheckSpec.pre enc Tryz.prog Tryz.f3 [] false w args ∧ laidMetH Tryz.prog laidA w) ∧ sizedMet enc Tryz.prog Tryz.f3 (OpenSpec.ofChange Rows.machineCheckSpec) false w args)
   (Rows.machineCheckSpec.post enc Tryz.prog Tryz.f3 false true false false) := by
 refine returnsInHanded_of_change_and (C := Tryz.checked) (X := fun w _ => laidMetH Tryz.prog laidA w) (fun _ _ _ hh h => h.of_heap hh) own0 started (by kernel_rfl) Tryz.func3
  (ChangeSpec.witness_shaped (enc := enc) (C := Tryz.checked) (os := os) (X := fun w _ => laidMetH Tryz.prog laidA w) false (World.doorLaid Tryz.prog 400 os) #[.agg #[.slice none 0 0, .slice none 0 0], .agg #[.string ByteArray.empty, .slice none 0 0, .int .i64 0, .slice none 0 0, .int .i64 0, .int .i64 0, .slice none 0 0]] 8 rfl (World.shaped_of_RefB (by kernel_rfl) (by kernel_rfl)) (by kernel_rfl) (by kernel_rfl) (by kernel_rfl) (door_met os _)) ?_
 intro W base args ds gs before hval hW _ hsz hL _
 exact law_contract [qab, qag] c_law50_MachineCheck (fun _ => rfl) out0 (by kernel_rfl) (by kernel_rfl) (by kernel_rfl) (show Tryz.prog.underlying 4 = some .bool by kernel_rfl) rfl (by kernel_rfl) (fun ds h => by
  have h : ds.length = 2 := h.trans (by kernel_rfl)
  match ds, h with
  | [d1, d2], _ => rfl) hval hW hsz (of_laid hL)
theorem machineCheck_holds : Rows.MachineCheckSaid :=
 OpenClaim.holds_of_wide 3 Tryz.f3 rfl rfl rfl rfl rfl rfl rfl ⟨rfl, rfl, rfl, rfl, rfl⟩ rfl rfl rfl rfl rfl (by kernel_rfl) Tryz.func3 (by kernel_rfl)
  (of_decide_eq_true (by kernel_rfl)) (by unfold Func.isWrapper; first | (rw [if_pos (by decide +kernel)]; kernel_rfl) | (rw [if_neg (by decide +kernel)]; exact ⟨rfl, rfl⟩))
  (fun os started H enc _ => machineCheck_lifted os started H enc)
theorem machineCheck_card : Rows.MachineCheckCardSaid :=
 Claim7.holds_tied_plain_at .later [] [.data, .data, .data, .data] true (true, "8a25e93a57308b3e1bd1e2ddafef83ef6f08e65b971f637ca5ad0e86c50934e3") true
  machineCheck_holds (fun _ h => by cases h) (by kernel_rfl) (fun _ h => by cases h) machineCheck_row_tie rfl ⟨rfl, rfl⟩ (by kernel_rfl) rfl
  (fun f fn hf hfn => by
   obtain rfl : f = 3 := Option.some.inj ((show Tryz.prog.funcNamed "burnish/burnishlaw50.MachineCheck" = some 3 by kernel_rfl).symm.trans hf) |>.symm
   obtain rfl : fn = Tryz.f3 := (Option.some.inj (Tryz.func3.symm.trans hfn)).symm
   exact ⟨by kernel_rfl, fun j t ht => by
    rw [Tryz.params3] at ht
    have hm : t ∈ [25, 31] := by simpa using Array.mem_of_getElem? ht
    have hall : ([25, 31].all fun u => !Tryz.prog.wantsStandIn u) = true := by kernel_rfl
    exact (show Tryz.prog.wantsStandIn t = false by simpa using List.all_eq_true.1 hall t hm)⟩)
  (by kernel_rfl)
#print axioms machineCheck_card
end Go.Proofs.YteaealfalanccaaGreatDoor
