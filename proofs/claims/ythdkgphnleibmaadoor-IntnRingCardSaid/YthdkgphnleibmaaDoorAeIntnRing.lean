/- IntnRing, at its tied card: for every type and three integers the law returns true and its arguments read as before. No conditions beyond the given ones. -/
import Derived.Test.YthdkgphnleibmaaDoorAeIntnBase
import Derived.Test.YthdkgphnleibmaaDoorTie
import Derived.Test.YthdkgphnleibmaaDoorCards
import Derived.SevenTiedAt
namespace Go.Proofs.YthdkgphnleibmaaDoor
open Go Go.AE Go.ChangeShapes Go.WideShapes Go.ChangeAt Go.WideMaps Go.WideElems Go.RowKit Burn.Intn
set_option maxRecDepth 100000
def sL7 : FSpec
  | [.val (.int .i64 _), .agg [.val (.int .i64 _), .val (.int .i64 _), .val (.int .i64 _)]] => some ⟨True, abool true⟩
  | _ => none
theorem ring_spec : SpecOK E6 7 sL7 := specOK_of fun args r hs _ => by
  unfold sL7 at hs
  split at hs
  · rename_i a b c d
    injection hs with hs
    subst hs
    exact ⟨by kernel_rfl, rfl, law_ring a b c d⟩
  · cases hs
theorem par7 : ∀ t ∈ Tryd.f7.params.toList, Tryd.prog.readableRec t = true ∧ t < Tryd.prog.types.size := by
  rw [Tryd.params7]
  intro t ht
  have hall : ([22, 36].all fun u => Tryd.prog.readableRec u && decide (u < Tryd.prog.types.size)) = true := by kernel_rfl
  have := List.all_eq_true.1 hall t ht
  simpa using this
theorem ring_lifted (os : Os) (started : os.Started) (H : Type) (enc : TypeId × Value → H) :
    ReturnsInHanded {} Tryd.checked os 7 .any (fun w args => (Rows.intnRingSpec.pre enc Tryd.prog Tryd.f7 [] false w args ∧ laidMetH Tryd.prog laid1 w) ∧ sizedMet enc Tryd.prog Tryd.f7 (OpenSpec.ofChange Rows.intnRingSpec) false w args)
      (Rows.intnRingSpec.post enc Tryd.prog Tryd.f7 false true false false) := by
  refine returnsInHanded_of_change_and (C := Tryd.checked) (X := fun w _ => laidMetH Tryd.prog laid1 w) (fun _ _ _ hh h => h.of_heap hh) own0 started (by kernel_rfl) Tryd.func7
    (ChangeSpec.witness_shaped (enc := enc) (C := Tryd.checked) (os := os) (X := fun w _ => laidMetH Tryd.prog laid1 w) false (World.doorLaid Tryd.prog 400 os) #[.int .i64 0, .agg #[.int .i64 0, .int .i64 0, .int .i64 0]] 8 rfl (World.shaped_of_RefB (by kernel_rfl) (by kernel_rfl)) (by kernel_rfl) (by kernel_rfl) (by kernel_rfl) (door_met os _)) ?_
  intro W base args ds gs before hval0 hW _ _ hL _
  have hval : ∀ (j : Nat) t v, Tryd.f7.params[j]? = some t → args[j]? = some v → Value.okWide Tryd.prog W .any base t v := hval0
  have hW' := hW
  obtain ⟨p, q, hA0, hV, rfl, hfz, hnd⟩ := hW
  have hA : DataW.TrodAll enc Tryd.prog W 0 (fun _ => true) true Tryd.f7.params.toList args.toList ds p := hA0
  rw [Tryd.params7] at hA hval
  obtain ⟨v0, v1, d0, d1, p0, p1, rfl, rfl, rfl, h0, h1⟩ := trodAll_two hA
  obtain ⟨rfl, rfl⟩ := trodVars_none hV
  obtain ⟨hgl, hpos⟩ := of_laid hL
  obtain ⟨a, rfl, rfl, rfl, _⟩ := open_int (show Tryd.prog.underlying 22 = some (.int .i64) by kernel_rfl) (hval 0 22 v0 rfl rfl) h0
  obtain ⟨cs, rfl, hcl, hci⟩ := open_ints (show Tryd.prog.underlying 36 = some (.array 3 2) by kernel_rfl) (show Tryd.prog.underlying 2 = some (.int .i64) by kernel_rfl) (by kernel_rfl) (by kernel_rfl) (hval 1 36 v1 rfl rfl) h1
  obtain ⟨c0, c1, c2, rfl⟩ := len3 hcl
  obtain ⟨b, rfl⟩ := hci 0 c0 rfl
  obtain ⟨c, rfl⟩ := hci 1 c1 rfl
  obtain ⟨d, rfl⟩ := hci 2 c2 rfl
  have hv : VRs W (fun b => b = 0) (fun _ => none) [aint .i64 a, .agg [aint .i64 b, aint .i64 c, aint .i64 d]] [.int .i64 a, .agg [.int .i64 b, .int .i64 c, .int .i64 d].toArray] := VRs.cons (.cr (.val _)) (VRs.cons (.agg [aint .i64 b, aint .i64 c, aint .i64 d] [.int .i64 b, .int .i64 c, .int .i64 d].toArray (by simp) fun j x y hx hy => (VRs.cons (.cr (.val _)) (VRs.cons (.cr (.val _)) (VRs.cons (.cr (.val _)) (VRs.nil))) : VRs W (fun b => b = 0) (fun _ => none) [aint .i64 b, aint .i64 c, aint .i64 d] [.int .i64 b, .int .i64 c, .int .i64 d]).2 j x y hx (by simpa using hy)) (VRs.nil))
  have hcall := calls_law ring_spec (args := [aint .i64 a, .agg [aint .i64 b, aint .i64 c, aint .i64 d]]) (r := ⟨True, abool true⟩) rfl rfl trivial rfl hgl (fun b hb => hb ▸ hpos) hv
  refine hcall.mono fun e W' ⟨he, hb⟩ => ?_
  subst he
  exact ⟨_, rfl, post_true out0 par7 (by kernel_rfl) u4 rfl (fun gs hgs => by subst hgs; rfl) hW' hb⟩
theorem intnRing_holds : Rows.IntnRingSaid :=
  OpenClaim.holds_of_wide 7 Tryd.f7 rfl rfl rfl rfl rfl rfl rfl ⟨rfl, rfl, rfl, rfl, rfl⟩ rfl rfl rfl rfl rfl (by kernel_rfl) Tryd.func7 (by kernel_rfl)
    (of_decide_eq_true (by kernel_rfl)) (by unfold Func.isWrapper; first | (rw [if_pos (by decide +kernel)]; kernel_rfl) | (rw [if_neg (by decide +kernel)]; exact ⟨rfl, rfl⟩))
    (fun os started H enc _ => ring_lifted os started H enc)
theorem intnRing_card : Rows.IntnRingCardSaid :=
  Claim7.holds_tied_plain_at .later [] [.data] true (true, "f08e1ce4779a89996ebe9ab77a7b607a8d8dd225ff66b3c0a69e213480675e3e") false
    intnRing_holds (fun _ h => by cases h) (by kernel_rfl) (fun _ h => by cases h) intnRing_row_tie rfl ⟨rfl, rfl⟩ (by kernel_rfl) rfl
    (fun f fn hf hfn => by
      obtain rfl : f = 7 := Option.some.inj ((show Tryd.prog.funcNamed "burnish/burnishlaw01.IntnRing" = some 7 by kernel_rfl).symm.trans hf) |>.symm
      obtain rfl : fn = Tryd.f7 := (Option.some.inj (Tryd.func7.symm.trans hfn)).symm
      exact ⟨by kernel_rfl, fun j t ht => by
        rw [Tryd.params7] at ht
        have hm : t ∈ [22, 36] := by simpa using Array.mem_of_getElem? ht
        have hall : ([22, 36].all fun u => !Tryd.prog.wantsStandIn u) = true := by kernel_rfl
        exact (show Tryd.prog.wantsStandIn t = false by simpa using List.all_eq_true.1 hall t hm)⟩)
    (by kernel_rfl)
#print axioms intnRing_card
end Go.Proofs.YthdkgphnleibmaaDoor
