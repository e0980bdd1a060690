/- IntnWraps, at its tied card: for every type and integer the law returns true and its arguments read as before. No conditions beyond the given ones. -/
import Derived.Test.YthdkgphnleibmaaDoorAeIntnRow
import Derived.Test.YthdkgphnleibmaaDoorTie
import Derived.Test.YthdkgphnleibmaaDoorCards
import Derived.SevenTiedAt
namespace Go.Proofs.YthdkgphnleibmaaDoor
open Go
theorem intnWraps_card : Rows.IntnWrapsCardSaid :=
  Claim7.holds_tied_plain_at .later [] [.data] true (true, "f08e1ce4779a89996ebe9ab77a7b607a8d8dd225ff66b3c0a69e213480675e3e") false
    intnWraps_holds (fun _ h => by cases h) (by kernel_rfl) (fun _ h => by cases h) intnWraps_row_tie rfl ⟨rfl, rfl⟩ (by kernel_rfl) rfl
    (fun f fn hf hfn => by
      obtain rfl : f = 3 := Option.some.inj ((show Tryd.prog.funcNamed "burnish/burnishlaw01.IntnWraps" = some 3 by kernel_rfl).symm.trans hf) |>.symm
      obtain rfl : fn = Tryd.f3 := (Option.some.inj (Tryd.func3.symm.trans hfn)).symm
      exact ⟨by kernel_rfl, fun j t ht => by
        rw [Tryd.params3] at ht
        have hm : t ∈ [22, 2] := by simpa using Array.mem_of_getElem? ht
        have hall : ([22, 2].all fun u => !Tryd.prog.wantsStandIn u) = true := by kernel_rfl
        exact (show Tryd.prog.wantsStandIn t = false by simpa using List.all_eq_true.1 hall t hm)⟩)
    (by kernel_rfl)
#print axioms intnWraps_card
end Go.Proofs.YthdkgphnleibmaaDoor
