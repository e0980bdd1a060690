/- A part of the proofs over this program: an abstract machine that the kernel evaluates, its soundness, and what the functions compute (IntnL5). -/
import Derived.Test.YthdkgphnleibmaaDoorAeIntnS3
namespace Burn.Intn
open Go Go.AE Go.Proofs
def L5 : List (FuncId × FSpec) := (18, sUlt) :: (19, sUlt) :: (20, sZext) :: (21, sZext) :: (22, sShl) :: (24, sLshr) :: (26, sAshr) :: (28, sAdd) :: (29, sAdd) :: (30, sSub) :: (31, sSub) :: (32, sMul) :: (33, sMul) :: (34, sDiv) :: (35, sRem) :: (36, sDiv) :: (37, sRem) :: L4
noncomputable def E5 : Ctx := ctx L5
theorem E5_ok : EOK E5 := ctx_ok (l := L5) (by
  unfold L5 L4
  simp only [List.forall_mem_cons]
  exact ⟨ult_ok, rult_ok, zext_ok, rzext_ok, shl_ok, lshr_ok, ashr_ok, add_ok, radd_ok, sub_ok, rsub_ok, mul_ok, rmul_ok, sdiv_ok, srem_ok, rsdiv_ok, rsrem_ok, bits_ok, rbits_ok, wrap_ok, uns_ok, runs_ok, rwrap_ok, rmin_ok, mag_ok, rmag_ok, rmax_ok, mul64_ok, fit_ok, fun _ h => by cases h⟩)
def sAwake : FSpec
  | [] => some ⟨True, abool true⟩
  | _ => none
def L6 : List (FuncId × FSpec) := (15, sAwake) :: L5
noncomputable def E6 : Ctx := ctx L6
end Burn.Intn
