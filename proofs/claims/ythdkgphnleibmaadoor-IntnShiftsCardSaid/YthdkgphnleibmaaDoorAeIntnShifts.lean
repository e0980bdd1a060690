/- IntnShifts, at its tied card: for every type, integer and amount the law returns true and its arguments read as before. No conditions beyond the given ones. -/
import Derived.Test.YthdkgphnleibmaaDoorAeIntnBase
import Derived.Test.YthdkgphnleibmaaDoorAeIntnPaths4
import Derived.Test.YthdkgphnleibmaaDoorTie
import Derived.Test.YthdkgphnleibmaaDoorCards
import Derived.SevenTiedAt
namespace Go.Proofs.YthdkgphnleibmaaDoor
open Go Go.AE Go.ChangeShapes Go.WideShapes Go.ChangeAt Go.WideMaps Go.WideElems Go.RowKit Burn.Intn
set_option maxRecDepth 100000
def sL5 : FSpec
  | [.val (.int .i64 _), .val (.int .i64 _), .val (.int .i64 _)] => some ⟨True, abool true⟩
  | _ => none
theorem shifts_spec : SpecOK E7 5 sL5 := specOK_of fun args r hs _ => by
  unfold sL5 at hs
  split at hs
  · rename_i a b c
    injection hs with hs
    subst hs
    exact ⟨by kernel_rfl, rfl, law_shifts a b c⟩
  · cases hs
theorem par5 : ∀ t ∈ Tryd.f5.params.toList, Tryd.prog.readableRec t = true ∧ t < Tryd.prog.types.size := by
  rw [Tryd.params5]
  intro t ht
  have hall : ([22, 2, 2].all fun u => Tryd.prog.readableRec u && decide (u < Tryd.prog.types.size)) = true := by kernel_rfl
  have := List.all_eq_true.1 hall t ht
  simpa using this
theorem shifts_lifted (os : Os) (started : os.Started) (H : Type) (enc : TypeId × Value → H) :
    ReturnsInHanded {} Tryd.checked os 5 .any (fun w args => (Rows.intnShiftsSpec.pre enc Tryd.prog Tryd.f5 [] false w args ∧ laidMetH Tryd.prog laid1 w) ∧ sizedMet enc Tryd.prog Tryd.f5 (OpenSpec.ofChange Rows.intnShiftsSpec) false w args)
      (Rows.intnShiftsSpec.post enc Tryd.prog Tryd.f5 false true false false) := by
  refine returnsInHanded_of_change_and (C := Tryd.checked) (X := fun w _ => laidMetH Tryd.prog laid1 w) (fun _ _ _ hh h => h.of_heap hh) own0 started (by kernel_rfl) Tryd.func5
    (ChangeSpec.witness_shaped (enc := enc) (C := Tryd.checked) (os := os) (X := fun w _ => laidMetH Tryd.prog laid1 w) false (World.doorLaid Tryd.prog 400 os) #[.int .i64 0, .int .i64 0, .int .i64 0] 8 rfl (World.shaped_of_RefB (by kernel_rfl) (by kernel_rfl)) (by kernel_rfl) (by kernel_rfl) (by kernel_rfl) (door_met os _)) ?_
  intro W base args ds gs before hval0 hW _ _ hL _
  have hval : ∀ (j : Nat) t v, Tryd.f5.params[j]? = some t → args[j]? = some v → Value.okWide Tryd.prog W .any base t v := hval0
  have hW' := hW
  obtain ⟨p, q, hA0, hV, rfl, hfz, hnd⟩ := hW
  have hA : DataW.TrodAll enc Tryd.prog W 0 (fun _ => true) true Tryd.f5.params.toList args.toList ds p := hA0
  rw [Tryd.params5] at hA hval
  obtain ⟨v0, v1, v2, d0, d1, d2, p0, p1, p2, rfl, rfl, rfl, h0, h1, h2⟩ := trodAll_three hA
  obtain ⟨rfl, rfl⟩ := trodVars_none hV
  obtain ⟨hgl, hpos⟩ := of_laid hL
  obtain ⟨a, rfl, rfl, rfl, _⟩ := open_int (show Tryd.prog.underlying 22 = some (.int .i64) by kernel_rfl) (hval 0 22 v0 rfl rfl) h0
  obtain ⟨b, rfl, rfl, rfl, _⟩ := open_int (show Tryd.prog.underlying 2 = some (.int .i64) by kernel_rfl) (hval 1 2 v1 rfl rfl) h1
  obtain ⟨c, rfl, rfl, rfl, _⟩ := open_int (show Tryd.prog.underlying 2 = some (.int .i64) by kernel_rfl) (hval 2 2 v2 rfl rfl) h2
  have hv : VRs W (fun b => b = 0) (fun _ => none) [aint .i64 a, aint .i64 b, aint .i64 c] [.int .i64 a, .int .i64 b, .int .i64 c] := VRs.cons (.cr (.val _)) (VRs.cons (.cr (.val _)) (VRs.cons (.cr (.val _)) (VRs.nil)))
  have hcall := calls_law shifts_spec (args := [aint .i64 a, aint .i64 b, aint .i64 c]) (r := ⟨True, abool true⟩) rfl rfl trivial rfl hgl (fun b hb => hb ▸ hpos) hv
  refine hcall.mono fun e W' ⟨he, hb⟩ => ?_
  subst he
  exact ⟨_, rfl, post_true out0 par5 (by kernel_rfl) u4 rfl (fun gs hgs => by subst hgs; rfl) hW' hb⟩
theorem intnShifts_holds : Rows.IntnShiftsSaid :=
  OpenClaim.holds_of_wide 5 Tryd.f5 rfl rfl rfl rfl rfl rfl rfl ⟨rfl, rfl, rfl, rfl, rfl⟩ rfl rfl rfl rfl rfl (by kernel_rfl) Tryd.func5 (by kernel_rfl)
    (of_decide_eq_true (by kernel_rfl)) (by unfold Func.isWrapper; first | (rw [if_pos (by decide +kernel)]; kernel_rfl) | (rw [if_neg (by decide +kernel)]; exact ⟨rfl, rfl⟩))
    (fun os started H enc _ => shifts_lifted os started H enc)
theorem intnShifts_card : Rows.IntnShiftsCardSaid :=
  Claim7.holds_tied_plain_at .later [] [.data] true (true, "f08e1ce4779a89996ebe9ab77a7b607a8d8dd225ff66b3c0a69e213480675e3e") false
    intnShifts_holds (fun _ h => by cases h) (by kernel_rfl) (fun _ h => by cases h) intnShifts_row_tie rfl ⟨rfl, rfl⟩ (by kernel_rfl) rfl
    (fun f fn hf hfn => by
      obtain rfl : f = 5 := Option.some.inj ((show Tryd.prog.funcNamed "burnish/burnishlaw01.IntnShifts" = some 5 by kernel_rfl).symm.trans hf) |>.symm
      obtain rfl : fn = Tryd.f5 := (Option.some.inj (Tryd.func5.symm.trans hfn)).symm
      exact ⟨by kernel_rfl, fun j t ht => by
        rw [Tryd.params5] at ht
        have hm : t ∈ [22, 2, 2] := by simpa using Array.mem_of_getElem? ht
        have hall : ([22, 2, 2].all fun u => !Tryd.prog.wantsStandIn u) = true := by kernel_rfl
        exact (show Tryd.prog.wantsStandIn t = false by simpa using List.all_eq_true.1 hall t hm)⟩)
    (by kernel_rfl)
#print axioms intnShifts_card
end Go.Proofs.YthdkgphnleibmaaDoor
